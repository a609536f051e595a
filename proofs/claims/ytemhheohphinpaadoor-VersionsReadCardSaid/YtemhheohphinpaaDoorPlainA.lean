/-
What the plain functions of the law VersionsRead answer, part 1.
-/
import Derived.Test.YtemhheohphinpaaDoorGenF
import Derived.KernelRfl
import Derived.Lib.IndexLaws
import Derived.Lib.ItoaLen
import Derived.Test.YtemhheohphinpaaDoorEngV
/-
Plain functions: what they answer, in total. Loops by an invariant and a measure.
-/
namespace Go.Eng
open Go
set_option linter.unusedVariables false
set_option linter.unusedSimpArgs false

def Ok {α : Type} (x : Option α) (P : α → Prop) : Prop := ∃ r, x = some r ∧ P r
section
variable {α β σ ρ : Type} {P Q : α → Prop} {R : β → Prop}
theorem Ok.some {r : α} (h : P r) : Ok (some r) P := ⟨r, rfl, h⟩
theorem Ok.mono {x : Option α} (h : Ok x P) (hq : ∀ r, P r → Q r) : Ok x Q := let ⟨r, h1, h2⟩ := h; ⟨r, h1, hq r h2⟩
theorem Ok.bind {x : Option α} {f : α → Option β} (h : Ok x P) (hf : ∀ r, P r → Ok (f r) R) : Ok (x.bind f) R := by
  obtain ⟨r, rfl, hr⟩ := h
  exact hf r hr
theorem Ok.cond {b : Bool} {x y : Option α} (ht : b = true → Ok x P) (hf : b = false → Ok y P) : Ok (cond b x y) P := by
  cases b
  · exact hf rfl
  · exact ht rfl
theorem Ok.gd {b : Bool} {x : Option α} (hb : b = true) (h : Ok x P) : Ok (gd b x) P := by
  subst hb; exact h
theorem Ok.eq {x : Option α} {r : α} (h : Ok x fun y => y = r) : x = Option.some r := by
  obtain ⟨y, h1, h2⟩ := h
  rw [h1, h2]
theorem Ok.of_eq {x : Option α} {r : α} (h : x = Option.some r) (hp : P r) : Ok x P := ⟨r, h, hp⟩

theorem loop_ok {f : σ → Option (σ ⊕ ρ)} {Q : ρ → Prop} (I : σ → Prop) (μ : σ → Nat)
    (step : ∀ s, I s → Ok (f s) fun x => match x with | .inl s' => I s' ∧ μ s' < μ s | .inr r => Q r) {s : σ} (h : I s) : Ok (loopO f s) Q := by
  generalize hn : μ s = n
  induction n using Nat.strongRecOn generalizing s with
  | _ n ih =>
    obtain ⟨x, h1, h2⟩ := step s h
    cases x with
    | inl s' =>
      obtain ⟨h3, h4⟩ := h2
      obtain ⟨r, h5, h6⟩ := ih (μ s') (by omega) h3 rfl
      refine ⟨r, ?_, h6⟩
      rw [loopO_eq, h1]
      exact h5
    | inr r =>
      refine ⟨r, ?_, h2⟩
      rw [loopO_eq, h1]
      rfl

theorem at_lt {l : List α} {n : Int} (h : 0 ≤ n) (h2 : n < l.length) : at? l n = Option.some (l[n.toNat]'(by omega)) := by
  unfold at?
  rw [if_pos h, List.getElem?_eq_getElem]
theorem at_nat {l : List α} {n : Nat} (h : n < l.length) : at? l (n : Int) = Option.some l[n] := by
  rw [at_lt (by omega) (by omega)]
  simp
theorem at_ok {l : List α} {n : Int} (h : 0 ≤ n) (h2 : n < l.length) : Ok (at? l n) (fun y => l[n.toNat]? = Option.some y) := by
  refine ⟨_, at_lt h h2, ?_⟩
  rw [List.getElem?_eq_getElem]
theorem at_mem {l : List α} {n : Int} (h : 0 ≤ n) (h2 : n < l.length) : Ok (at? l n) (fun y => y ∈ l) := by
  refine (at_ok h h2).mono fun y hy => List.mem_of_getElem? hy
end

/-! ### Integers of 64 bits -/
def I64 (n : Int) : Prop := -9223372036854775808 ≤ n ∧ n ≤ 9223372036854775807
theorem wrap64 {n : Int} (h : -9223372036854775808 ≤ n) (h2 : n ≤ 9223372036854775807) : IntKind.wrap .i64 n = n := by
  unfold IntKind.wrap
  simp [IntKind.min, IntKind.max, IntKind.bits, IntKind.signed]
  omega
theorem tmod_nonneg {a b : Int} (h : 0 ≤ a) : 0 ≤ a.tmod b := Int.tmod_nonneg b h
theorem tmod_lt' {a b : Int} (h : 0 < b) : a.tmod b < b := Int.tmod_lt_of_pos a h
theorem lim_eq : LIM = 137438953472 := by decide
theorem ble_lim {n : Nat} (h : n ≤ 137438953472) : Nat.ble n LIM = true := by rw [Nat.ble_eq, lim_eq]; exact h
end Go.Eng

/-
Loops over the elements of a list; keys.
-/
namespace Go.Eng
open Go
set_option linter.unusedVariables false
set_option linter.unusedSimpArgs false

/-- The first answer of the elements from number k on. -/
def scan {α ρ : Type} (g : Nat → α → Option ρ) : Nat → List α → Option ρ
  | _, [] => none
  | k, x :: xs => match g k x with
    | some r => some r
    | none => scan g (k + 1) xs

theorem drop_get {α : Type} {l : List α} {i : Nat} (h : i < l.length) : l.drop i = l[i] :: l.drop (i + 1) := List.drop_eq_getElem_cons h

/-- A loop over a list that ends at the first element with an answer. -/
theorem range_loop {α ρ : Type} {l : List α} {f : Int → Option (Int ⊕ ρ)} (g : Nat → α → Option ρ) (done : ρ) (hl : (l.length : Int) ≤ 9223372036854775807)
    (hf : ∀ (i : Nat) (h : i < l.length), f i = some (match g i l[i] with | none => .inl (IntKind.wrap .i64 (i + 1)) | some r => .inr r)) (hd : f l.length = some (.inr done)) :
    loopO f 0 = some ((scan g 0 l).getD done) := by
  have key : ∀ (n i : Nat), l.length - i = n → i ≤ l.length → loopO f i = some ((scan g i (l.drop i)).getD done) := by
    intro n
    induction n with
    | zero =>
      intro i h1 h2
      have : i = l.length := by omega
      subst this
      rw [loopO_eq, hd, List.drop_length]
      rfl
    | succ n ih =>
      intro i h1 h2
      have hi : i < l.length := by omega
      rw [loopO_eq, hf i hi, drop_get hi]
      simp only [scan]
      cases hg : g i l[i] with
      | some r => rfl
      | none =>
        simp only [Option.bind_some]
        rw [wrap64 (by omega) (by omega)]
        exact ih (i + 1) (by omega) (by omega)
  exact key l.length 0 (by omega) (by omega)

/-! ### Keys -/
def keyC (c : UInt8) : Bool := (97 ≤ c.toNat && c.toNat ≤ 122) || (48 ≤ c.toNat && c.toNat ≤ 57) || c.toNat == 45 || c.toNat == 95
def keyB (s : List UInt8) : Bool := match s with
  | [] => false
  | c :: l => decide (l.length < 40) && (97 ≤ c.toNat && c.toNat ≤ 122) && (c :: l).all keyC

theorem u8_lt (c : UInt8) : c.toNat < 256 := c.toNat_lt

theorem u8_all {p : UInt8 → Bool} (h : ((List.range 256).all fun n => p (UInt8.ofNat n)) = true) (c : UInt8) : p c = true := by
  have := List.all_eq_true.1 h c.toNat (List.mem_range.2 (u8_lt c))
  simpa using this
theorem Key_x3 (c : UInt8) : base_Key_x3 c = some (!keyC c) := by
  have := u8_all (p := fun c => decide (base_Key_x3 c = some (!keyC c))) (by decide +kernel) c
  simpa using this
theorem Key_x2 (s : List UInt8) (hs : (s.length : Int) ≤ 9223372036854775807) : loopO (base_Key_x2 s) 0 = some (cond (s.all keyC) (.inl ()) (.inr ())) := by
  rw [range_loop (l := s) (fun _ c => cond (keyC c) none (some (.inr ()))) (.inl ()) hs]
  · congr 1
    generalize 0 = k
    induction s generalizing k with
    | nil => rfl
    | cons c s ih =>
      simp only [scan, List.all_cons]
      cases keyC c with
      | true => simp only [cond_true, Bool.true_and]; exact ih (by simp at hs; omega) (k + 1)
      | false => rfl
  · intro i hi
    unfold base_Key_x2
    rw [at_nat hi]
    have : ((i : Int) < s.length) := by omega
    simp only [this, decide_true, cond_true, Option.bind_some, Key_x3]
    cases keyC s[i] <;> rfl
  · unfold base_Key_x2
    simp
theorem Key_eq (s : List UInt8) (hs : (s.length : Int) ≤ 9223372036854775807) : base_Key s = some (keyB s) := by
  unfold base_Key base_Key_x1
  cases s with
  | nil => simp [keyB]
  | cons c l =>
    rw [Key_x2 _ hs]
    have h0 : at? (c :: l) 0 = some c := rfl
    simp only [reduceCtorEq, decide_false, cond_false, h0, Option.bind_some]
    unfold keyB
    have h40 : ((40 : Int) < ((c :: l).length : Int)) ↔ ¬ l.length < 40 := by simp; omega
    by_cases h1 : l.length < 40
    · have h1' : ¬ ((40 : Int) < ((c :: l).length : Int)) := by rw [h40]; simpa using h1
      simp only [h1', decide_false, cond_false, h1, decide_true, Bool.true_and]
      by_cases h2 : (c.toNat : Int) < 97
      · have : ¬ 97 ≤ c.toNat := by omega
        simp [h2, this]
      · by_cases h3 : (122 : Int) < c.toNat
        · have : ¬ c.toNat ≤ 122 := by omega
          simp [h2, h3, this]
        · have g1 : 97 ≤ c.toNat := by omega
          have g2 : c.toNat ≤ 122 := by omega
          simp only [h2, decide_false, cond_false, h3, Option.bind_some, g1, g2, decide_true, Bool.and_self, Bool.true_and]
          cases (c :: l).all keyC <;> rfl
    · have h1' : ((40 : Int) < ((c :: l).length : Int)) := by rw [h40]; exact h1
      simp only [h1', h1, decide_true, decide_false, cond_true, Option.bind_some, Bool.false_and]
end Go.Eng

/-
Small checks; the order of measurements.
-/
namespace Go.Eng
open Go
set_option linter.unusedVariables false
set_option linter.unusedSimpArgs false

theorem Out_eq (n low high : Int) : base_Out n low high = some (decide (n < low) || decide (high < n)) := by
  unfold base_Out base_Out_x1
  by_cases h : n < low <;> simp [h]
theorem in_eq (n low high : Int) : fleetref2_in n low high = some (decide (low ≤ n) && decide (n ≤ high)) := by
  unfold fleetref2_in fleetref2_in_x1
  by_cases h : low ≤ n <;> simp [h]
theorem indexByte_neg (l : List UInt8) (c : UInt8) : decide (Lib.indexByte l c < 0) = !l.contains c := by
  induction l with
  | nil => rfl
  | cons b l ih =>
    have hge := Lib.indexByte_ge l c
    unfold Lib.indexByte
    rw [List.contains_cons]
    by_cases hb : (b == c) = true
    · have : (c == b) = true := by rw [BEq.comm]; exact hb
      simp [hb, this]
    · have hb' : (b == c) = false := by simpa using hb
      have : (c == b) = false := by rw [BEq.comm]; exact hb'
      simp only [hb', Bool.false_eq_true, if_false, this, Bool.false_or]
      rw [← ih]
      by_cases h1 : Lib.indexByte l c = -1
      · simp [h1]
      · have : (Lib.indexByte l c == -1) = false := by simpa using h1
        simp only [this, Bool.false_eq_true, if_false]
        congr 1
        simp
        omega
theorem only_eq (s t : List UInt8) (hs : (s.length : Int) ≤ 9223372036854775807) : fleetref2_only s t = some (s.all fun c => t.contains c) := by
  unfold fleetref2_only
  rw [range_loop (l := s) (fun _ c => cond (t.contains c) none (some (.inr ()))) (.inl ()) hs]
  · simp only [Option.bind_some]
    generalize 0 = k
    induction s generalizing k with
    | nil => rfl
    | cons c s ih =>
      simp only [scan, List.all_cons]
      cases t.contains c with
      | true => simp only [cond_true, Bool.true_and]; exact ih (by simp at hs; omega) (k + 1)
      | false => rfl
  · intro i hi
    unfold fleetref2_only_x1
    rw [at_nat hi]
    have : ((i : Int) < s.length) := by omega
    have hc : ((s[i].toNat : Int).toNat.toUInt8) = s[i] := by simp
    simp only [this, decide_true, cond_true, Option.bind_some, strings_IndexByte, stringslite_IndexByte, hc, indexByte_neg]
    cases t.contains s[i] <;> rfl
  · unfold fleetref2_only_x1
    simp

theorem small_contains (c : UInt8) : ([97, 98, 99, 100, 101, 102, 103, 104, 105, 106, 107, 108, 109, 110, 111, 112, 113, 114, 115, 116, 117, 118, 119, 120, 121, 122] : List UInt8).contains c = (decide (97 ≤ c.toNat) && decide (c.toNat ≤ 122)) := by
  have := u8_all (p := fun c => ([97, 98, 99, 100, 101, 102, 103, 104, 105, 106, 107, 108, 109, 110, 111, 112, 113, 114, 115, 116, 117, 118, 119, 120, 121, 122] : List UInt8).contains c == (decide (97 ≤ c.toNat) && decide (c.toNat ≤ 122))) (by decide +kernel) c
  exact eq_of_beq this
theorem key_contains (c : UInt8) : ([97, 98, 99, 100, 101, 102, 103, 104, 105, 106, 107, 108, 109, 110, 111, 112, 113, 114, 115, 116, 117, 118, 119, 120, 121, 122, 48, 49, 50, 51, 52, 53, 54, 55, 56, 57, 45, 95] : List UInt8).contains c = keyC c := by
  have := u8_all (p := fun c => ([97, 98, 99, 100, 101, 102, 103, 104, 105, 106, 107, 108, 109, 110, 111, 112, 113, 114, 115, 116, 117, 118, 119, 120, 121, 122, 48, 49, 50, 51, 52, 53, 54, 55, 56, 57, 45, 95] : List UInt8).contains c == keyC c) (by decide +kernel) c
  exact eq_of_beq this

theorem QKey_eq (s : List UInt8) (hs : (s.length : Int) ≤ 9223372036854775807) : fleetref2_Key s = some (keyB s) := by
  unfold fleetref2_Key fleetref2_Key_x1
  rw [in_eq]
  cases s with
  | nil => rfl
  | cons c l =>
    have h1 : (1 : Int) ≤ ((c :: l).length : Int) := by simp; omega
    have h40 : (((c :: l).length : Int) ≤ 40) ↔ l.length < 40 := by simp; omega
    have hsub : sub? (c :: l) 0 1 = some [c] := by
      unfold sub?
      simp
      omega
    simp only [Option.bind_some, h1, decide_true, Bool.true_and, hsub]
    rw [only_eq [c] _ (by simp), only_eq (c :: l) _ hs]
    simp only [small_contains, key_contains, Option.bind_some, List.all_cons, List.all_nil, Bool.and_true]
    unfold keyB
    simp only [List.all_cons]
    by_cases h2 : l.length < 40
    · have : (((c :: l).length : Int) ≤ 40) := h40.2 h2
      simp only [this, decide_true, cond_true, h2, Bool.true_and]
      cases (decide (97 ≤ c.toNat) && decide (c.toNat ≤ 122)) <;> rfl
    · have : ¬ (((c :: l).length : Int) ≤ 40) := fun h => h2 (h40.1 h)
      simp only [this, decide_false, cond_false, h2, Bool.false_and, Option.bind_some]

/-! ### Orders -/
def cmpI (a b : Int) : Int := if a < b then -1 else if b < a then 1 else 0
def or0 (a b : Int) : Int := if a = 0 then b else a
theorem cmpI_anti (a b : Int) : cmpI b a = -cmpI a b := by unfold cmpI; split <;> split <;> first | omega | (split <;> omega) | rfl
theorem or0_neg (a b : Int) : or0 (-a) (-b) = -or0 a b := by unfold or0; split <;> split <;> omega
end Go.Eng

/-
Sorting of few elements, and what is left of equal ones, for all kinds of elements.
-/
namespace Go.Eng
open Go
set_option linter.unusedVariables false
set_option linter.unusedSimpArgs false

theorem loop_in {σ ρ : Type} {f : σ → Option (σ ⊕ ρ)} {s s' : σ} (h : f s = some (.inl s')) : loopO f s = loopO f s' := by rw [loopO_eq, h]; rfl
theorem loop_out {σ ρ : Type} {f : σ → Option (σ ⊕ ρ)} {s : σ} {r : ρ} (h : f s = some (.inr r)) : loopO f s = some r := by rw [loopO_eq, h]; rfl

section
variable {α : Type}
/-! ### Insertion, as the code has it -/
def All (p : α → Prop) (l : List α) : Prop := ∀ x ∈ l, p x
theorem All.nil {p : α → Prop} : All p [] := fun _ h => nomatch h
theorem All.set {p : α → Prop} {l : List α} (h : All p l) {i : Nat} {x : α} (hx : p x) : All p (l.set i x) := by
  intro y hy
  rcases List.mem_or_eq_of_mem_set hy with hy | rfl
  · exact h y hy
  · exact hx
theorem All.at {p : α → Prop} {l : List α} (h : All p l) {i : Nat} (hi : i < l.length) : p l[i] := h _ (List.getElem_mem hi)

/-! ### Equal ones, as the code has it -/
end
end Go.Eng

/-
Numbers: written and read, both ways.
-/
namespace Go.Eng
open Go
set_option linter.unusedVariables false
set_option linter.unusedSimpArgs false
theorem snocRec {α : Type} {motive : List α → Prop} (nil : motive []) (snoc : ∀ l c, motive l → motive (l ++ [c])) (t : List α) : motive t := by
  have key : ∀ r : List α, motive r.reverse := by
    intro r
    induction r with
    | nil => exact nil
    | cons c r ih => rw [List.reverse_cons]; exact snoc _ _ ih
  have := key t.reverse
  rwa [List.reverse_reverse] at this
def isDig (c : UInt8) : Bool := decide (48 ≤ c.toNat) && decide (c.toNat ≤ 57)
def natV (l : List UInt8) : Nat := l.foldl (fun n c => n * 10 + (c.toNat - 48)) 0
theorem natV_snoc (l : List UInt8) (c : UInt8) : natV (l ++ [c]) = natV l * 10 + (c.toNat - 48) := by unfold natV; rw [List.foldl_append]; rfl
theorem dig_rng {c : UInt8} (h : isDig c = true) : 48 ≤ c.toNat ∧ c.toNat ≤ 57 := by unfold isDig at h; simpa using h
theorem natV_lt : ∀ {l : List UInt8}, (∀ c ∈ l, isDig c = true) → natV l < 10 ^ l.length := by
  intro l
  induction l using snocRec with
  | nil => intro _; simp [natV]
  | snoc l c ih =>
    intro h
    have h1 := ih fun c hc => h c (by simp [hc])
    have h2 := dig_rng (h c (by simp))
    rw [natV_snoc, List.length_append, List.length_singleton, Nat.pow_succ]
    omega
theorem dec_small {u : Nat} (h : u < 10) : Lib.decDigits u = [UInt8.ofNat (48 + u)] := by rw [Lib.decDigits, dif_pos h]
theorem dec_big {u : Nat} (h : ¬ u < 10) : Lib.decDigits u = Lib.decDigits (u / 10) ++ [UInt8.ofNat (48 + u % 10)] := by rw [Lib.decDigits, dif_neg h]
theorem of_nat_dig {c : UInt8} (h : 48 ≤ c.toNat ∧ c.toNat ≤ 57) : UInt8.ofNat (48 + (c.toNat - 48)) = c := by
  have : 48 + (c.toNat - 48) = c.toNat := by omega
  rw [this]
  exact UInt8.ofNat_toNat
theorem natV_pos : ∀ {t : List UInt8}, (∀ c ∈ t, isDig c = true) → (∀ h : 0 < t.length, t[0] ≠ 48) → t ≠ [] → 1 ≤ natV t := by
  intro t
  induction t using snocRec with
  | nil => intro _ _ h; exact absurd rfl h
  | snoc l c ih =>
    intro hd h0 _
    rw [natV_snoc]
    by_cases hl : l = []
    · subst hl
      have h1 := h0 (by simp)
      have h2 := dig_rng (hd c (by simp))
      have h1 : c ≠ 48 := by simpa using h1
      have : c.toNat ≠ 48 := fun e => h1 (UInt8.toNat_inj.1 (by rw [e]; rfl))
      simp [natV]; omega
    · have hpos : 0 < l.length := List.length_pos_iff.2 hl
      have h1 := ih (fun c hc => hd c (by simp [hc])) (fun h => by have := h0 (by simp); rwa [List.getElem_append_left h] at this) hl
      omega
/-- digits that do not begin with a nought are what is written of their number -/
theorem dec_of_dig : ∀ {t : List UInt8}, (∀ c ∈ t, isDig c = true) → t ≠ [] → (∀ h : 1 < t.length, t[0] ≠ 48) → Lib.decDigits (natV t) = t := by
  intro t
  induction t using snocRec with
  | nil => intro _ h; exact absurd rfl h
  | snoc l c ih =>
    intro hd _ h0
    have hc := dig_rng (hd c (by simp))
    by_cases hl : l = []
    · subst hl
      have e : natV ([] ++ [c]) = c.toNat - 48 := by simp [natV]
      rw [e, dec_small (by omega), of_nat_dig hc]
      rfl
    · have hpos : 0 < l.length := List.length_pos_iff.2 hl
      have hd' : ∀ c ∈ l, isDig c = true := fun c hc => hd c (by simp [hc])
      have h00 : l[0] ≠ 48 := by have := h0 (by simp; omega); rwa [List.getElem_append_left hpos] at this
      have hp := natV_pos hd' (fun _ => h00) hl
      have ih := ih hd' hl (fun _ => h00)
      rw [natV_snoc, dec_big (by omega)]
      rw [show (natV l * 10 + (c.toNat - 48)) / 10 = natV l by omega, show (natV l * 10 + (c.toNat - 48)) % 10 = c.toNat - 48 by omega, ih, of_nat_dig hc]
theorem dec_head : ∀ (u : Nat), 1 ≤ u → ∃ c l, Lib.decDigits u = c :: l ∧ c ≠ 48 := by
  intro u
  induction u using Nat.strongRecOn with
  | _ u ih =>
    intro hu
    by_cases h : u < 10
    · rw [dec_small h]
      refine ⟨_, _, rfl, fun e => ?_⟩
      have := congrArg UInt8.toNat e
      simp only [UInt8.toNat_ofNat'] at this
      have h2 : (48 : UInt8).toNat = 48 := rfl
      omega
    · rw [dec_big h]
      obtain ⟨c, l, e, hc⟩ := ih (u / 10) (by omega) (by omega)
      rw [e]
      exact ⟨c, l ++ [_], rfl, hc⟩
theorem dec_iff {t : List UInt8} (hd : ∀ c ∈ t, isDig c = true) (ht : t ≠ []) : Lib.decDigits (natV t) = t ↔ ∀ h : 1 < t.length, t[0] ≠ 48 := by
  refine ⟨fun e h h0 => ?_, dec_of_dig hd ht⟩
  by_cases hz : natV t = 0
  · rw [hz, dec_small (by omega)] at e
    have := congrArg List.length e
    simp at this
    omega
  · obtain ⟨c, l, e2, hc⟩ := dec_head (natV t) (by omega)
    rw [e] at e2
    have e3 : t[0] = c := by simp only [e2, List.getElem_cons_zero]
    exact hc (by rw [← e3]; exact h0)
/-! ### The code -/
def trimM : List UInt8 → List UInt8
  | [] => []
  | c :: l => if c = 45 then l else c :: l
theorem trim_eq (s : List UInt8) : strings_TrimPrefix s [45] = some (trimM s) := by
  unfold strings_TrimPrefix stringslite_TrimPrefix stringslite_HasPrefix stringslite_HasPrefix_x1
  cases s with
  | nil => rfl
  | cons c l =>
    have h1 : ((([45] : List UInt8).length : Nat) : Int) ≤ (((c :: l).length : Nat) : Int) := by simp; omega
    have h2 : sub? (c :: l) 0 ((([45] : List UInt8).length : Nat) : Int) = some [c] := by
      unfold sub?
      rw [if_pos ⟨by omega, by simp, h1⟩]
      rfl
    have h3 : sub? (c :: l) ((([45] : List UInt8).length : Nat) : Int) (((c :: l).length : Nat) : Int) = some l := by
      unfold sub?
      rw [if_pos ⟨by simp, h1, Int.le_refl _⟩]
      simp
    simp only [h1, decide_true, cond_true, h2, Option.bind_some, h3, trimM]
    by_cases hc : c = 45
    · simp [hc]
    · simp [hc]
/-- is it a number of at most so many digits? -/
def okN (s : List UInt8) (most : Nat) : Bool := !(trimM s).isEmpty && (decide ((trimM s).length ≤ most) && (!(decide ((trimM s).head? = some 48) && (decide (1 < (trimM s).length) || decide ((trimM s).length < s.length))) && (trimM s).all isDig))
def valN (s : List UInt8) : Int := if s.head? = some 45 then -(natV (trimM s) : Int) else (natV (trimM s) : Int)
theorem trim_len (s : List UInt8) : (trimM s).length ≤ s.length ∧ s.length ≤ (trimM s).length + 1 := by
  cases s with
  | nil => simp [trimM]
  | cons c l =>
    by_cases h : c = 45
    · have : trimM (c :: l) = l := by unfold trimM; simp only [h, if_true]
      rw [this]; simp
    · have : trimM (c :: l) = c :: l := by unfold trimM; simp only [h, if_false]
      rw [this]; simp
theorem atoi_loop {t : List UInt8} (hd : ∀ c ∈ t, isDig c = true) (hl : t.length ≤ 17) : loopO (strconv_Atoi_2_x4 t) (0, 0) = some (natV t : Int) := by
  apply Ok.eq
  refine loop_ok (fun q : Int × Int => ∃ i : Nat, q.2 = (i : Int) ∧ i ≤ t.length ∧ q.1 = (natV (t.take i) : Int)) (fun q => ((t.length : Int) - q.2).toNat) ?_ ⟨0, rfl, by omega, by simp [natV]⟩
  rintro ⟨x, q⟩ ⟨i, rfl, hi, e⟩
  simp only at e
  unfold strconv_Atoi_2_x4
  have hb : (bytesD t).length = t.length := by unfold bytesD; simp
  by_cases hc : i < t.length
  · have h' : (i : Int) < (bytesD t).length := by omega
    have hg : at? (bytesD t) (i : Int) = some (((t[i]).toNat : Nat) : Int) := by
      rw [at_nat (show i < (bytesD t).length by omega)]
      unfold bytesD; simp
    have hdi := dig_rng (hd _ (List.getElem_mem hc))
    have w8 : IntKind.wrap .u8 ((((t[i]).toNat : Nat) : Int) - 48) = (((t[i]).toNat - 48 : Nat) : Int) := by
      have : IntKind.wrap .u8 ((((t[i]).toNat : Nat) : Int) - 48) = ((((t[i]).toNat : Nat) : Int) - 48) % 256 := by unfold IntKind.wrap; simp [IntKind.bits, IntKind.signed]
      rw [this]; omega
    have hlt := natV_lt (l := t.take i) fun c hc => hd c (List.mem_of_mem_take hc)
    have hp : 10 ^ (t.take i).length ≤ 10 ^ 17 := Nat.pow_le_pow_right (by omega) (by simp; omega)
    have n9 : ¬ (9 : Int) < ((((t[i]).toNat - 48 : Nat)) : Int) := by omega
    simp only [h', decide_true, cond_true, hg, Option.bind_some, w8, n9, decide_false, cond_false]
    rw [wrap64 (n := (i : Int) + 1) (by omega) (by omega), e, wrap64 (n := (natV (t.take i) : Int) * 10) (by omega) (by omega), wrap64 (n := (((t[i]).toNat - 48 : Nat) : Int)) (by omega) (by omega), wrap64 (by omega) (by omega)]
    refine .some ⟨⟨i + 1, by simp, hc, ?_⟩, by simp only; omega⟩
    simp only
    rw [List.take_succ_eq_append_getElem hc, natV_snoc]
    omega
  · have h' : ¬ (i : Int) < (bytesD t).length := by omega
    simp only [h', decide_false, cond_false]
    rw [List.take_of_length_le (by omega)] at e
    exact .some e
theorem atoi_eq {s : List UInt8} (hd : ∀ c ∈ trimM s, isDig c = true) (hne : trimM s ≠ []) (hl : (trimM s).length ≤ 17) : strconv_Atoi s = some (valN s) := by
  have hsl := trim_len s
  have hlt := natV_lt hd
  have hp : 10 ^ (trimM s).length ≤ 10 ^ 17 := Nat.pow_le_pow_right (by omega) hl
  cases s with
  | nil => exact absurd rfl hne
  | cons c l =>
    have h1 : (0 : Int) < (((c :: l).length : Nat) : Int) := by simp
    have h2 : (((c :: l).length : Nat) : Int) < 19 := by omega
    have a0 : at? (c :: l) 0 = some c := rfl
    unfold strconv_Atoi strconv_Atoi_2 strconv_Atoi_2_x1 strconv_Atoi_2_x2 strconv_Atoi_2_x3 strconv_Atoi_2_x5
    simp only [h1, h2, decide_true, cond_true, Option.bind_some, a0]
    by_cases hc : c = 45
    · subst hc
      have ht : trimM (45 :: l) = l := rfl
      rw [ht] at hd hne hl hlt hp
      have hlen : 0 < l.length := List.length_pos_iff.2 hne
      have h3 : sub? ((45 : UInt8) :: l) 1 (((45 :: l : List UInt8).length : Nat) : Int) = some l := by
        unfold sub?
        rw [if_pos ⟨by omega, by simp; omega, Int.le_refl _⟩]
        simp
      have e45 : (((45 : UInt8).toNat : Nat) : Int) = 45 := rfl
      have n1 : ¬ ((l.length : Nat) : Int) < 1 := by omega
      simp only [e45, decide_true, cond_true, Option.bind_some, h3, n1, decide_false, cond_false, atoi_loop hd hl]
      rw [wrap64 (by omega) (by omega)]
      unfold valN
      rw [ht]
      simp
    · have ht : trimM (c :: l) = c :: l := by unfold trimM; simp only [hc, if_false]
      rw [ht] at hd hl hlt hp
      have hdc := dig_rng (hd c (by simp))
      have n45 : ¬ ((c.toNat : Nat) : Int) = 45 := by omega
      have n43 : ¬ ((c.toNat : Nat) : Int) = 43 := by omega
      simp only [n45, n43, decide_false, cond_false, Option.bind_some, atoi_loop hd hl]
      unfold valN
      rw [ht]
      simp [hc]
theorem num_x2 {t : List UInt8} (hl : t.length ≤ 1000000) : loopO (base_Number_x2 t) 0 = some (cond (t.all isDig) (.inl ()) (.inr ())) := by
  rw [range_loop (l := t) (fun _ c => cond (isDig c) none (some (.inr ()))) (.inl ()) (by omega)]
  · congr 1
    have : ∀ (t : List UInt8) (k : Nat), ((scan (fun _ c => cond (isDig c) none (some (Sum.inr () : Unit ⊕ Unit))) k t).getD (.inl ())) = cond (t.all isDig) (.inl ()) (.inr ()) := by
      intro t
      induction t with
      | nil => intro k; rfl
      | cons c t ih =>
        intro k
        simp only [scan, List.all_cons]
        cases isDig c with
        | true => simp only [cond_true, Bool.true_and]; exact ih (k + 1)
        | false => rfl
    exact this t 0
  · intro i hi
    unfold base_Number_x2 base_Number_x3
    have h : (i : Int) < t.length := by omega
    simp only [h, decide_true, cond_true, at_nat hi, Option.bind_some]
    have e : (cond (decide ((((t[i]).toNat : Nat) : Int) < 48)) (some true) (some (decide ((57 : Int) < (((t[i]).toNat : Nat) : Int))))) = some (!isDig t[i]) := by
      unfold isDig
      by_cases h1 : (t[i]).toNat < 48
      · have : (((t[i]).toNat : Nat) : Int) < 48 := by omega
        have h2 : ¬ 48 ≤ (t[i]).toNat := by omega
        simp [this, h2]
      · have : ¬ (((t[i]).toNat : Nat) : Int) < 48 := by omega
        have h2 : 48 ≤ (t[i]).toNat := by omega
        by_cases h3 : (t[i]).toNat ≤ 57
        · have : ¬ (57 : Int) < (((t[i]).toNat : Nat) : Int) := by omega
          simp [*]
        · have : (57 : Int) < (((t[i]).toNat : Nat) : Int) := by omega
          simp [*]
    rw [e]
    cases isDig t[i] <;> rfl
  · unfold base_Number_x2
    simp
theorem okN_parts {s : List UInt8} {most : Nat} (h : okN s most = true) : trimM s ≠ [] ∧ (trimM s).length ≤ most ∧ (∀ c ∈ trimM s, isDig c = true) ∧ ¬ ((trimM s).head? = some 48 ∧ (1 < (trimM s).length ∨ (trimM s).length < s.length)) := by
  unfold okN at h
  simp only [Bool.and_eq_true, Bool.not_eq_true', decide_eq_true_eq, List.all_eq_true, List.isEmpty_eq_false_iff, Bool.and_eq_false_iff, decide_eq_false_iff_not, Bool.or_eq_false_iff] at h
  obtain ⟨h1, h2, h3, h4⟩ := h
  refine ⟨h1, h2, h4, fun ⟨g1, g2⟩ => ?_⟩
  rcases h3 with h3 | h3
  · exact h3 g1
  · rcases g2 with g2 | g2
    · exact h3.1 g2
    · exact h3.2 g2
theorem Number_p {s : List UInt8} {most : Nat} (hm : most ≤ 17) (hs : s.length ≤ 100000) : base_Number s (most : Int) = some (cond (okN s most) (valN s, true) (0, false)) := by
  have hsl := trim_len s
  unfold base_Number base_Number_x1
  rw [trim_eq]
  simp only [Option.bind_some]
  cases ht : trimM s with
  | nil =>
    have : okN s most = false := by unfold okN; rw [ht]; rfl
    simp [this]
  | cons c l =>
    have hne : ¬ (c :: l = ([] : List UInt8)) := by simp
    simp only [hne, decide_false, cond_false]
    by_cases hl : most < (c :: l).length
    · have h1 : (most : Int) < (((c :: l).length : Nat) : Int) := by omega
      have : okN s most = false := by
        unfold okN; rw [ht]
        have : ¬ (c :: l).length ≤ most := by omega
        rw [decide_eq_false this]
        simp only [Bool.false_and, Bool.and_false]
      simp only [h1, decide_true, cond_true, Option.bind_some, this, cond_false]
    · have h1 : ¬ (most : Int) < (((c :: l).length : Nat) : Int) := by omega
      have a0 : at? (c :: l) 0 = some c := rfl
      simp only [h1, decide_false, cond_false, a0, Option.bind_some]
      by_cases hc : c = 48 ∧ (1 < (c :: l).length ∨ (c :: l).length < s.length)
      · have : okN s most = false := by
          unfold okN; rw [ht]
          obtain ⟨rfl, h2⟩ := hc
          have : (decide (1 < ((48 : UInt8) :: l).length) || decide (((48 : UInt8) :: l).length < s.length)) = true := by simpa using h2
          simp only [List.head?_cons, decide_true, Bool.true_and, this, Bool.not_true, Bool.false_and, Bool.and_false]
        obtain ⟨rfl, h2⟩ := hc
        have e48 : (((48 : UInt8).toNat : Nat) : Int) = 48 := rfl
        rw [this]
        simp only [e48, decide_true, cond_true]
        by_cases h3 : 1 < ((48 : UInt8) :: l).length
        · have h3' : (1 : Int) < ((((48 : UInt8) :: l).length : Nat) : Int) := by omega
          simp only [h3', decide_true, cond_true, Option.bind_some, cond_false]
        · have h3' : ¬ (1 : Int) < ((((48 : UInt8) :: l).length : Nat) : Int) := by omega
          have h4 : ((((48 : UInt8) :: l).length : Nat) : Int) < ((s.length : Nat) : Int) := by rcases h2 with h2 | h2 <;> omega
          simp only [h3', h4, decide_true, decide_false, cond_true, cond_false, Option.bind_some]
      · have hx : (cond (decide (((c.toNat : Nat) : Int) = 48)) (cond (decide ((1 : Int) < (((c :: l).length : Nat) : Int))) (some true) (some (decide ((((c :: l).length : Nat) : Int) < ((s.length : Nat) : Int))))) (some false)) = some false := by
          by_cases h2 : c = 48
          · subst h2
            have e48 : (((48 : UInt8).toNat : Nat) : Int) = 48 := rfl
            have h3 : ¬ (1 : Int) < ((((48 : UInt8) :: l).length : Nat) : Int) := fun h => hc ⟨rfl, .inl (by omega)⟩
            have h4 : ¬ ((((48 : UInt8) :: l).length : Nat) : Int) < ((s.length : Nat) : Int) := fun h => hc ⟨rfl, .inr (by omega)⟩
            simp only [e48, h3, h4, decide_true, decide_false, cond_true, cond_false]
          · have : ¬ ((c.toNat : Nat) : Int) = 48 := fun e => h2 (UInt8.toNat_inj.1 (by have h48 : (48 : UInt8).toNat = 48 := rfl; rw [h48]; omega))
            simp only [this, decide_false, cond_false]
        rw [hx]
        simp only [Option.bind_some, cond_false, num_x2 (t := c :: l) (by omega)]
        cases hall : (c :: l).all isDig with
        | false =>
          have : okN s most = false := by unfold okN; rw [ht, hall]; simp
          rw [this]
          rfl
        | true =>
          have hd : ∀ x ∈ trimM s, isDig x = true := by rw [ht]; exact List.all_eq_true.1 hall
          have hok : okN s most = true := by
            unfold okN
            rw [ht, hall]
            have h2 : (c :: l).length ≤ most := by omega
            simp only [h2, decide_true, List.head?_cons, Option.some.injEq, List.isEmpty_cons, Bool.not_false, Bool.true_and, Bool.and_true, Bool.not_eq_true']
            rw [Bool.and_eq_false_iff]
            by_cases h3 : c = 48
            · right
              have h4 : ¬ (1 < (c :: l).length ∨ (c :: l).length < s.length) := fun h => hc ⟨h3, h⟩
              have h5 : ¬ 1 < (c :: l).length := fun h => h4 (.inl h)
              have h6 : ¬ (c :: l).length < s.length := fun h => h4 (.inr h)
              simp only [h5, h6, decide_false, Bool.or_false]
            · left
              simp [h3]
          have := atoi_eq hd (by rw [ht]; simp) (by rw [ht]; omega)
          simp only [cond_true, Option.bind_some, this, hok]
theorem digs_contains (c : UInt8) : ([48, 49, 50, 51, 52, 53, 54, 55, 56, 57] : List UInt8).contains c = isDig c := by
  have h : ((List.range 256).all fun n => ([48, 49, 50, 51, 52, 53, 54, 55, 56, 57] : List UInt8).contains (UInt8.ofNat n) == isDig (UInt8.ofNat n)) = true := by decide +kernel
  have := u8_all (p := fun c => ([48, 49, 50, 51, 52, 53, 54, 55, 56, 57] : List UInt8).contains c == isDig c) h c
  simpa using this
theorem Number_r {s : List UInt8} {most : Nat} (hm : most ≤ 17) (hs : s.length ≤ 100000) : ∃ x, fleetref2_Number s (most : Int) = some (x, okN s most) ∧ (okN s most = true → x = valN s) := by
  have hsl := trim_len s
  unfold fleetref2_Number fleetref2_Number_x1
  rw [trim_eq]
  simp only [Option.bind_some]
  cases ht : trimM s with
  | nil =>
    have : okN s most = false := by unfold okN; rw [ht]; rfl
    exact ⟨0, by simp [this], by rw [this]; intro h; cases h⟩
  | cons c l =>
    have hne : ¬ (c :: l = ([] : List UInt8)) := by simp
    simp only [hne, decide_false, cond_false]
    by_cases hl : most < (c :: l).length
    · have h1 : (most : Int) < (((c :: l).length : Nat) : Int) := by omega
      have : okN s most = false := by
        unfold okN; rw [ht]
        have : ¬ (c :: l).length ≤ most := by omega
        rw [decide_eq_false this]
        simp only [Bool.false_and, Bool.and_false]
      simp only [h1, decide_true, cond_true, Option.bind_some, this]
      exact ⟨0, rfl, fun h => by cases h⟩
    · have h1 : ¬ (most : Int) < (((c :: l).length : Nat) : Int) := by omega
      have hon : fleetref2_only (c :: l) [48, 49, 50, 51, 52, 53, 54, 55, 56, 57] = some ((c :: l).all isDig) := by
        rw [only_eq _ _ (by omega)]
        congr 1
        have : (fun c => ([48, 49, 50, 51, 52, 53, 54, 55, 56, 57] : List UInt8).contains c) = isDig := funext digs_contains
        rw [this]
      simp only [h1, decide_false, cond_false, hon, Option.bind_some]
      cases hall : (c :: l).all isDig with
      | false =>
        have : okN s most = false := by unfold okN; rw [ht, hall]; simp
        rw [this]
        exact ⟨0, rfl, fun h => by cases h⟩
      | true =>
        have hd : ∀ x ∈ trimM s, isDig x = true := by rw [ht]; exact List.all_eq_true.1 hall
        have hat := atoi_eq hd (by rw [ht]; simp) (by rw [ht]; omega)
        have hlt := natV_lt hd
        have hp : 10 ^ (trimM s).length ≤ 10 ^ 17 := Nat.pow_le_pow_right (by omega) (by rw [ht]; omega)
        have hv : -9223372036854775808 ≤ valN s ∧ valN s ≤ 9223372036854775807 := by unfold valN; split <;> omega
        have hit : strconv_Itoa (valN s) = some (Lib.itoa (valN s)) := by
          unfold strconv_Itoa
          rw [gd_true (by simp; omega)]
        simp only [Bool.not_true, cond_false, hat, Option.bind_some, hit]
        refine ⟨valN s, ?_, fun _ => rfl⟩
        congr 2
        rw [Bool.eq_iff_iff, decide_eq_true_eq]
        have hd' : ∀ x ∈ c :: l, isDig x = true := List.all_eq_true.1 hall
        have key := dec_iff hd' (by simp)
        have hok : okN s most = true ↔ ¬ (c = 48 ∧ (1 < (c :: l).length ∨ (c :: l).length < s.length)) := by
          constructor
          · intro h
            have := (okN_parts h).2.2.2
            rw [ht] at this
            simpa using this
          · intro h
            unfold okN
            rw [ht, hall]
            have h2 : (c :: l).length ≤ most := by omega
            simp only [h2, decide_true, List.head?_cons, Option.some.injEq, List.isEmpty_cons, Bool.not_false, Bool.true_and, Bool.and_true, Bool.not_eq_true']
            rw [Bool.and_eq_false_iff]
            by_cases h3 : c = 48
            · right
              have h5 : ¬ 1 < (c :: l).length := fun g => h ⟨h3, .inl g⟩
              have h6 : ¬ (c :: l).length < s.length := fun g => h ⟨h3, .inr g⟩
              simp only [h5, h6, decide_false, Bool.or_false]
            · left
              simp [h3]
        rw [hok]
        have hs0 : s = c :: l ∧ c ≠ 45 ∨ s = 45 :: c :: l := by
          cases s with
          | nil => simp [trimM] at ht
          | cons b m =>
            by_cases hb : b = 45
            · right
              have e : trimM (b :: m) = m := by unfold trimM; simp only [hb, if_true]
              rw [e] at ht
              rw [hb, ht]
            · left
              have e : trimM (b :: m) = b :: m := by unfold trimM; simp only [hb, if_false]
              rw [e] at ht
              injection ht with g1 g2
              exact ⟨by rw [g1, g2], by rw [← g1]; exact hb⟩
        unfold valN
        rw [ht]
        rcases hs0 with ⟨rfl, h45⟩ | rfl
        · have hh : ¬ (c :: l).head? = some 45 := by simpa using h45
          rw [if_neg hh]
          have e : Lib.itoa ((natV (c :: l) : Nat) : Int) = Lib.decDigits (natV (c :: l)) := by unfold Lib.itoa; rw [if_neg (by omega)]; simp
          rw [e, key]
          constructor
          · rintro h ⟨h1, h2⟩
            rcases h2 with h2 | h2
            · exact h h2 (by simpa using h1)
            · omega
          · intro h h1 h0
            exact h ⟨by simpa using h0, .inl h1⟩
        · have hh : ((45 : UInt8) :: c :: l).head? = some 45 := rfl
          rw [if_pos hh]
          by_cases hz : natV (c :: l) = 0
          · have e : Lib.itoa (-((natV (c :: l) : Nat) : Int)) = [48] := by
              rw [hz]; unfold Lib.itoa; rw [if_neg (by omega)]
              exact dec_small (by omega)
            rw [e]
            have hc48 : c = 48 := by
              refine Classical.byContradiction fun h => ?_
              have := natV_pos hd' (fun _ => by simpa using h) (by simp)
              omega
            constructor
            · intro h; have := congrArg List.length h; simp at this
            · intro h; exact absurd ⟨hc48, .inr (by simp)⟩ h
          · have e : Lib.itoa (-((natV (c :: l) : Nat) : Int)) = 45 :: Lib.decDigits (natV (c :: l)) := by unfold Lib.itoa; rw [if_pos (by omega)]; simp
            rw [e]
            constructor
            · intro h
              injection h with _ h
              have hk := key.1 h
              rintro ⟨h1, _⟩
              by_cases hlen : 1 < (c :: l).length
              · exact hk hlen (by simpa using h1)
              · have hl0 : l = [] := by simp at hlen; exact hlen
                exact hz (by rw [hl0, h1]; rfl)
            · intro h
              rw [key.2 fun h1 h0 => h ⟨by simpa using h0, .inl h1⟩]
end Go.Eng

/-
strings.Split at one byte.
-/
namespace Go.Eng
open Go
set_option linter.unusedVariables false
set_option linter.unusedSimpArgs false
def splitC (c : UInt8) : List UInt8 → List (List UInt8)
  | [] => [[]]
  | x :: l => if x = c then [] :: splitC c l else match splitC c l with
    | h :: t => (x :: h) :: t
    | [] => [[x]]
theorem splitC_cons (c x : UInt8) (l : List UInt8) : splitC c (x :: l) = if x = c then [] :: splitC c l else match splitC c l with
    | h :: t => (x :: h) :: t
    | [] => [[x]] := rfl
theorem splitC_ne (c : UInt8) : ∀ l, splitC c l ≠ []
  | [] => by simp [splitC]
  | x :: l => by
    unfold splitC
    split
    · simp
    · split <;> simp
theorem splitC_none {c : UInt8} : ∀ {l : List UInt8}, (∀ x ∈ l, x ≠ c) → splitC c l = [l]
  | [], _ => rfl
  | x :: l, h => by
    have ih := splitC_none (l := l) fun y hy => h y (by simp [hy])
    unfold splitC
    rw [if_neg (h x (by simp)), ih]
theorem splitC_at {c : UInt8} : ∀ {a b : List UInt8}, (∀ x ∈ a, x ≠ c) → splitC c (a ++ c :: b) = a :: splitC c b
  | [], b, _ => by rw [List.nil_append, splitC_cons, if_pos rfl]
  | x :: a, b, h => by
    have ih := splitC_at (a := a) (b := b) fun y hy => h y (by simp [hy])
    rw [List.cons_append, splitC_cons, if_neg (h x (by simp)), ih]
theorem splitC_len (c : UInt8) : ∀ l, (splitC c l).length = l.count c + 1
  | [] => rfl
  | x :: l => by
    have ih := splitC_len c l
    unfold splitC
    by_cases h : x = c
    · rw [if_pos h, List.length_cons, ih, h, List.count_cons_self]
    · rw [if_neg h, List.count_cons_of_ne h]
      cases hs : splitC c l with
      | nil => exact absurd hs (splitC_ne c l)
      | cons y t => rw [hs] at ih; simpa using ih
theorem splitC_bd (c : UInt8) : ∀ l, ∀ x ∈ splitC c l, x.length ≤ l.length
  | [], x, hx => by simp [splitC] at hx; simp [hx]
  | y :: l, x, hx => by
    have ih := splitC_bd c l
    unfold splitC at hx
    split at hx
    · rcases List.mem_cons.1 hx with rfl | hx
      · simp
      · have := ih x hx; simp; omega
    · split at hx
      · rename_i h t he
        rcases List.mem_cons.1 hx with rfl | hx
        · have := ih h (by rw [he]; simp); simp; omega
        · have := ih x (by rw [he]; simp [hx]); simp; omega
      · simp at hx; simp [hx]
theorem byte_back (c : UInt8) : (((c.toNat : Nat) : Int)).toNat.toUInt8 = c := by simp
theorem index1_eq (s : List UInt8) (c : UInt8) : strings_Index s [c] = some (Lib.indexByte s c) := by
  unfold strings_Index stringslite_Index stringslite_Index_x1 stringslite_IndexByte
  have n0 : ¬ ((([c] : List UInt8).length : Nat) : Int) = 0 := by simp
  have n1 : ((([c] : List UInt8).length : Nat) : Int) = 1 := by simp
  have a0 : at? [c] 0 = some c := rfl
  simp only [n0, n1, decide_true, decide_false, cond_true, cond_false, Option.bind_some, a0, byte_back]
  by_cases h : [c] = s
  · subst h
    simp only [decide_true, cond_true, Option.bind_some]
    congr 1
    unfold Lib.indexByte
    simp
  · simp only [h, show ¬ ((1 : Int) = 0) by decide, decide_true, decide_false, cond_true, cond_false, Option.bind_some]
theorem index_cases (s : List UInt8) (c : UInt8) : (Lib.indexByte s c < 0 ∧ s.count c = 0 ∧ ∀ x ∈ s, x ≠ c) ∨ ∃ a b, s = a ++ c :: b ∧ Lib.indexByte s c = (a.length : Int) ∧ (∀ x ∈ a, x ≠ c) ∧ s.count c = b.count c + 1 := by
  by_cases h : Lib.indexByte s c < 0
  · have hn := indexByte_neg s c
    rw [decide_eq_true h] at hn
    have hc : s.contains c = false := by simpa using hn.symm
    have hc : ¬ c ∈ s := by simpa using hc
    exact .inl ⟨h, List.count_eq_zero.2 hc, fun x hx e => hc (e ▸ hx)⟩
  · right
    obtain ⟨o, ho⟩ : ∃ o : Nat, Lib.indexByte s c = o := ⟨(Lib.indexByte s c).toNat, by omega⟩
    obtain ⟨h1, h2⟩ := Lib.indexByte_some ho
    obtain ⟨hl, h3⟩ := List.getElem?_eq_some_iff.1 h1
    have ha : ∀ x ∈ s.take o, x ≠ c := fun x hx e => by
      obtain ⟨i, hi, rfl⟩ := List.mem_iff_getElem.1 hx
      have hio : i < o := by have := hi; rw [List.length_take] at this; omega
      apply h2 i hio
      rw [List.getElem?_eq_getElem (by omega), ← e]
      simp
    have e : s = s.take o ++ c :: s.drop (o + 1) := by rw [← h3, List.getElem_cons_drop, List.take_append_drop]
    refine ⟨s.take o, s.drop (o + 1), e, by rw [ho]; simp; omega, ha, ?_⟩
    have : (s.take o).count c = 0 := List.count_eq_zero.2 fun h => ha c h rfl
    have e9 := congrArg (List.count c) e
    rw [List.count_append, List.count_cons_self, this] at e9
    omega
theorem split_eq {s : List UInt8} {c : UInt8} (hs : s.length ≤ 10000000) : strings_Split s [c] = some (splitC c s) := by
  unfold strings_Split strings_genSplit strings_genSplit_x1 strings_Count
  have n0 : ¬ ((([c] : List UInt8).length : Nat) : Int) = 0 := by simp
  have n1 : ((([c] : List UInt8).length : Nat) : Int) = 1 := by simp
  have a0 : at? [c] 0 = some c := rfl
  have ne : ¬ ([c] : List UInt8) = [] := by simp
  have hcl : s.count c ≤ s.length := List.count_le_length
  have hcb : countB s c = (s.count c : Int) := rfl
  simp only [show ¬ ((1 : Int) = 0) by decide, show ¬ ((-1 : Int) = 0) by decide, show ((-1 : Int) < 0) by decide, n0, n1, ne, decide_true, decide_false, cond_true, cond_false, Option.bind_some, a0, byte_back, hcb]
  rw [wrap64 (n := (s.count c : Int) + 1) (by omega) (by omega), wrap64 (n := (s.length : Int) + 1) (by omega) (by omega)]
  have hmin : imin ((s.count c : Int) + 1) ((s.length : Int) + 1) = ((s.count c + 1 : Nat) : Int) := by unfold imin; split <;> omega
  rw [hmin]
  have hg : (decide (0 ≤ ((s.count c + 1 : Nat) : Int)) && decide (((s.count c + 1 : Nat) : Int) ≤ ((s.count c + 1 : Nat) : Int)) && decide (((s.count c + 1 : Nat) : Int) ≤ 137438953472)) = true := by simp; omega
  rw [gd_true hg]
  generalize hN : s.count c = N at *
  have key : Ok (loopO (strings_genSplit_x2 s [c] 0 ((N : Int) + 1)) (s, List.replicate (((N + 1 : Nat) : Int)).toNat ([] : List UInt8), 0)) (fun r => r.2.2 = (N : Int) ∧ r.2.1.length = N + 1 ∧ r.2.1.take N ++ [r.1] = splitC c s) := by
    refine loop_ok (fun q : List UInt8 × List (List UInt8) × Int => ∃ i : Nat, q.2.2 = (i : Int) ∧ i + q.1.count c = N ∧ q.2.1.length = N + 1 ∧ q.1.length ≤ s.length ∧ q.2.1.take i ++ splitC c q.1 = splitC c s) (fun q => ((N : Int) - q.2.2).toNat) ?_ ⟨0, rfl, by simp [hN], by simp, Nat.le_refl _, by simp⟩
    rintro ⟨x, a, q⟩ ⟨i, rfl, h1, h2, h3, h4⟩
    simp only at h1 h2 h3 h4
    unfold strings_genSplit_x2
    rw [wrap64 (n := (s.length : Int) + 1) (by omega) (by omega), hmin, wrap64 (n := ((N + 1 : Nat) : Int) - 1) (by omega) (by omega)]
    by_cases hi : i < N
    · have hi' : (i : Int) < ((N + 1 : Nat) : Int) - 1 := by omega
      simp only [hi', decide_true, cond_true, index1_eq, Option.bind_some]
      rcases index_cases x c with ⟨_, h0, _⟩ | ⟨u, v, e, e2, e3, e4⟩
      · omega
      · have hxl : x.length = u.length + (v.length + 1) := by rw [e]; simp
        have nn : ¬ ((u.length : Nat) : Int) < 0 := by omega
        have s1 : sub? x 0 (IntKind.wrap .i64 (((u.length : Nat) : Int) + 0)) = some u := by
          rw [wrap64 (by omega) (by omega)]
          unfold sub?
          rw [if_pos ⟨by omega, by omega, by omega⟩, e]
          simp
        have s2 : sub? x (IntKind.wrap .i64 (((u.length : Nat) : Int) + 1)) (x.length : Int) = some v := by
          rw [wrap64 (by omega) (by omega)]
          unfold sub?
          rw [if_pos ⟨by omega, by omega, by omega⟩]
          congr 1
          have t1 : x.take (x.length : Int).toNat = x := by simp
          rw [t1, e, show (((u.length : Nat) : Int) + 1).toNat = (u ++ [c]).length by simp, show u ++ c :: v = (u ++ [c]) ++ v by simp, List.drop_left]
        simp only [e2, nn, decide_false, cond_false, n1, s1, s2, Option.bind_some, at_nat (show i < a.length by omega)]
        rw [wrap64 (n := (i : Int) + 1) (by omega) (by omega)]
        refine .some ⟨⟨i + 1, by simp, by simp only; omega, by simp [h2], by simp only; omega, ?_⟩, by simp only; omega⟩
        simp only
        rw [← h4, e, splitC_at e3]
        have : ((a.set (i : Int).toNat u).take (i + 1)) = a.take i ++ [u] := by
          rw [Int.toNat_natCast, List.take_succ_eq_append_getElem (by simp; omega), List.take_set_of_le (Nat.le_refl _)]
          simp
        rw [this]
        simp
    · have hi' : ¬ (i : Int) < ((N + 1 : Nat) : Int) - 1 := by omega
      simp only [hi', decide_false, cond_false]
      have hiN : i = N := by omega
      subst hiN
      refine .some ⟨rfl, h2, ?_⟩
      have : x.count c = 0 := by omega
      rw [splitC_none (fun y hy e => List.count_eq_zero.1 this (by rw [← e]; exact hy))] at h4
      exact h4
  obtain ⟨⟨x, a, q⟩, r1, r2, r3, r4⟩ := key
  simp only at r2 r3 r4
  subst r2
  rw [r1]
  simp only [Option.bind_some, at_nat (show N < a.length by omega)]
  rw [wrap64 (n := (N : Int) + 1) (by omega) (by omega), gd_true (by simp; omega)]
  simp only [Option.bind_some]
  congr 1
  rw [← r4]
  have : ((N : Int) + 1).toNat = N + 1 := by omega
  rw [this, Int.toNat_natCast, List.take_succ_eq_append_getElem (by simp; omega), List.take_set_of_le (Nat.le_refl _)]
  simp
end Go.Eng

/-
Checks of measurements and series, both ways.
-/
namespace Go.Eng
open Go
set_option linter.unusedVariables false
set_option linter.unusedSimpArgs false

theorem cmpInt_eq (a b : Int) : cmp_Compare_int a b = some (cmpI a b) := by
  unfold cmp_Compare_int cmp_isNaN_int cmpI
  by_cases h1 : a < b
  · simp [h1]
  · by_cases h2 : b < a <;> simp [h1, h2]
theorem Or_eq (l : List Int) (hl : (l.length : Int) ≤ 9223372036854775807) : cmp_Or_int l = some ((l.find? fun x => !decide (x = 0)).getD 0) := by
  unfold cmp_Or_int
  rw [range_loop (l := l) (fun _ x => cond (!decide (x = 0)) (some (.inr x)) none) (.inl ()) hl]
  · simp only [Option.bind_some]
    generalize 0 = k
    induction l generalizing k with
    | nil => rfl
    | cons c s ih =>
      simp only [scan, List.find?_cons]
      by_cases hc : c = 0
      · simp only [hc, decide_true, Bool.not_true, cond_false]
        exact ih (by simp at hl; omega) (k + 1)
      · simp [hc]
  · intro i hi
    unfold cmp_Or_int_x1
    rw [at_nat hi]
    have : ((i : Int) < l.length) := by omega
    simp only [this, decide_true, cond_true, Option.bind_some]
    cases (!decide (l[i] = 0)) <;> rfl
  · unfold cmp_Or_int_x1
    simp
/-! ### Check -/
end Go.Eng

/-
Loops that only gather.
-/
namespace Go.Eng
open Go
set_option linter.unusedVariables false
set_option linter.unusedSimpArgs false

theorem scan_find0 {α : Type} {p : α → Bool} : ∀ {l : List α} {k : Nat}, ∃ r : Int, (match (scan (fun i x => cond (p x) (some (Sum.inr (i : Int) : Unit ⊕ Int)) none) k l).getD (.inl ()) with | .inl _ => (-1 : Int) | .inr v => v) = r ∧ decide (0 ≤ r) = l.any p
  | [], k => ⟨-1, rfl, rfl⟩
  | x :: l, k => by
    simp only [scan, List.any_cons]
    cases p x with
    | true => exact ⟨k, rfl, by simp⟩
    | false => simp only [cond_false, Bool.false_or]; exact scan_find0 (l := l) (k := k + 1)
/-- A search for the first element that meets a test: is there one? -/
theorem find_loop {α : Type} {l : List α} {f : Int → Option (Int ⊕ (Unit ⊕ Int))} (p : α → Bool) (hl : (l.length : Int) ≤ 9223372036854775807)
    (hf : ∀ (i : Nat) (h : i < l.length), f i = some (cond (p l[i]) (.inr (.inr (i : Int))) (.inl (IntKind.wrap .i64 ((i : Int) + 1))))) (hd : f l.length = some (.inr (.inl ()))) :
    ∃ x, loopO f 0 = some x ∧ decide (0 ≤ (match x with | .inl _ => (-1 : Int) | .inr v => v)) = l.any p := by
  refine ⟨_, range_loop (l := l) (fun i x => cond (p x) (some (.inr (i : Int))) none) (.inl ()) hl (fun i h => ?_) hd, ?_⟩
  · rw [hf i h]
    cases p l[i] <;> rfl
  · obtain ⟨r, h1, h2⟩ := scan_find0 (p := p) (l := l) (k := 0)
    rw [h1]; exact h2
end Go.Eng

/-
The streams.
-/
namespace Go.Eng
open Go
set_option linter.unusedVariables false
set_option linter.unusedSimpArgs false

theorem wrap_I64 (n : Int) : I64 (IntKind.wrap .i64 n) := by
  unfold IntKind.wrap I64
  simp [IntKind.bits, IntKind.signed]
  split <;> omega

theorem Below_eq {x n : Int} (hx : I64 x) (hn : I64 n) : fleetmake_Below x n = some (if n < 1 then 0 else x % n) := by
  unfold I64 at hx hn
  unfold fleetmake_Below fleetmake_Below_x1
  by_cases h : n < 1
  · simp [h]
  · have h0 : (n == 0) = false := by simp; omega
    have e := Int.emod_eq_tmod (a := x) (b := n)
    have nn := Int.emod_nonneg x (show n ≠ 0 by omega)
    have lt := Int.emod_lt_of_pos x (show 0 < n by omega)
    simp only [h, decide_false, cond_false, h0, Bool.not_false, gd, cond_true, Option.bind_some, if_false]
    by_cases h3 : x.tmod n < 0
    · simp only [h3, decide_true, cond_true, Option.bind_some]
      split at e
      · omega
      · rw [wrap64 (by omega) (by omega)]
        congr 1
        omega
    · simp only [h3, decide_false, cond_false, Option.bind_some]
      congr 1
      split at e <;> omega
theorem Below_ok {x n : Int} (hx : I64 x) (hn : I64 n) : Ok (fleetmake_Below x n) (fun r => (1 ≤ n → 0 ≤ r ∧ r < n) ∧ (n < 1 → r = 0)) := by
  refine .of_eq (Below_eq hx hn) ⟨fun h => ?_, fun h => by simp [h]⟩
  rw [if_neg (by omega)]
  exact ⟨Int.emod_nonneg _ (by omega), Int.emod_lt_of_pos _ (by omega)⟩

/-- A stream whose numbers are of 64 bits, of which at most k were taken. -/
def StrOk (k : Nat) (s : fleetmake_Stream) : Prop := 0 ≤ s.at_ ∧ s.at_ ≤ k ∧ s.L.length ≤ 9223372036854775807 ∧ ∀ n ∈ s.L, I64 n
theorem StrOk.mono {k k' : Nat} {s : fleetmake_Stream} (h : StrOk k s) (hk : k ≤ k') : StrOk k' s := ⟨h.1, by have := h.2.1; omega, h.2.2⟩
/-- One number further. -/
abbrev nxt (s : fleetmake_Stream) : fleetmake_Stream := fleetmake_Stream.mk s.L (IntKind.wrap .i64 (s.at_ + 1))
theorem StrOk.nxt {k : Nat} {s : fleetmake_Stream} (h : StrOk k s) (hk : k < 1099511627776) : StrOk (k + 1) (nxt s) := by
  obtain ⟨h1, h2, h3, h4⟩ := h
  refine ⟨?_, ?_, h3, h4⟩
  · show 0 ≤ IntKind.wrap .i64 (s.at_ + 1)
    rw [wrap64 (by omega) (by omega)]; omega
  · show IntKind.wrap .i64 (s.at_ + 1) ≤ _
    rw [wrap64 (by omega) (by omega)]; omega

theorem Next_ok {k : Nat} {s : fleetmake_Stream} {n : Int} (h : StrOk k s) (hk : k < 1099511627776) (hn : I64 n) : Ok (fleetmake_Stream_Next s n) (fun r => (1 ≤ n → 0 ≤ r ∧ r < n) ∧ (n < 1 → r = 0)) := by
  obtain ⟨h1, h2, h3, h4⟩ := h
  unfold fleetmake_Stream_Next
  refine .cond (fun _ => ?_) (fun hl => ?_)
  · exact (Below_ok (wrap_I64 _) hn).bind fun r hr => .some hr
  · have hl' : s.L.length ≠ 0 := by simpa using hl
    have e1 : IntKind.wrap .i64 (s.at_ + 1) = s.at_ + 1 := wrap64 (by omega) (by omega)
    have e2 : IntKind.wrap .i64 (s.at_ + 1 - 1) = s.at_ := by rw [wrap64 (by omega) (by omega)]; omega
    refine .gd (by simpa using hl') ?_
    rw [e1, e2]
    refine (at_mem (tmod_nonneg h1) (tmod_lt' (by omega))).bind fun y hy => ?_
    refine (Below_ok (h4 y hy) (by unfold I64; omega)).bind fun r1 hr1 => ?_
    exact (Below_ok (wrap_I64 _) hn).bind fun r hr => .some hr

theorem Pick_ok {k : Nat} {s : fleetmake_Stream} {l : List Int} (h : StrOk k s) (hk : k < 1099511627776) (hl : 0 < l.length) (hl2 : l.length < 1000) : Ok (fleetmake_Stream_Pick_o1 s l) (fun r => r ∈ l) := by
  unfold fleetmake_Stream_Pick_o1
  refine (Next_ok h hk (by unfold I64; omega)).bind fun r hr => ?_
  have := hr.1 (by omega)
  exact (at_mem this.1 this.2).bind fun y hy => .some hy
theorem Some_ok {k : Nat} {s : fleetmake_Stream} {l : List (List UInt8)} (h : StrOk k s) (hk : k < 1099511627776) (hl : 0 < l.length) (hl2 : l.length < 1000) : Ok (fleetmake_Stream_Some_o1 s l) (fun r => r ∈ l) := by
  unfold fleetmake_Stream_Some_o1
  refine (Next_ok h hk (by unfold I64; omega)).bind fun r hr => ?_
  have := hr.1 (by omega)
  exact (at_mem this.1 this.2).bind fun y hy => .some hy
theorem Flip_ok {k : Nat} {s : fleetmake_Stream} {n : Int} (h : StrOk k s) (hk : k < 1099511627776) (hn : I64 n) : Ok (fleetmake_Stream_Flip s n) (fun _ => True) := by
  unfold fleetmake_Stream_Flip
  exact (Next_ok h hk hn).bind fun r hr => .some trivial
theorem Range_ok {k : Nat} {s : fleetmake_Stream} {low high : Int} (h : StrOk k s) (hk : k < 1099511627776) (hlow : -4611686018427387903 < low ∧ low < 4611686018427387904) (hh : -4611686018427387904 < high ∧ high < 4611686018427387903) :
    Ok (fleetmake_Stream_Range s low high) (fun r => StrOk (k + 1) r.1 ∧ low ≤ r.2 ∧ (low ≤ high → r.2 ≤ high) ∧ (high < low → r.2 = low)) := by
  unfold fleetmake_Stream_Range
  refine .cond (fun hc => ?_) (fun hc => ?_)
  · have hc' : high < low := by simpa using hc
    exact .some ⟨h.mono (by omega), Int.le_refl _, by intro h; omega, fun _ => rfl⟩
  · have hc' : ¬ high < low := by simpa using hc
    have e1 : IntKind.wrap .i64 (high - low) = high - low := wrap64 (by omega) (by omega)
    have e2 : IntKind.wrap .i64 (high - low + 1) = high - low + 1 := wrap64 (by omega) (by omega)
    rw [e1, e2]
    refine (Next_ok h hk (by unfold I64; omega)).bind fun r hr => ?_
    have := hr.1 (by omega)
    refine .some ⟨h.nxt hk, ?_, fun _ => ?_, fun h => by omega⟩
    · show low ≤ IntKind.wrap .i64 (low + r)
      rw [wrap64 (by omega) (by omega)]; omega
    · show IntKind.wrap .i64 (low + r) ≤ high
      rw [wrap64 (by omega) (by omega)]; omega
theorem Odd_ok {k : Nat} {s : fleetmake_Stream} {low high : Int} (h : StrOk k s) (hk : k + 2 < 1099511627776) (hlow : -4611686018427387902 < low ∧ low < 4611686018427387904) (hh : -4611686018427387904 < high ∧ high < 4611686018427387902) (hlh : low ≤ high) :
    Ok (fleetmake_Stream_Odd s low high) (fun r => StrOk (k + 2) r.1 ∧ ((low - 1 ≤ r.2 ∧ r.2 ≤ high + 1) ∨ r.2 = -1099511627776 ∨ r.2 = 1099511627776)) := by
  unfold fleetmake_Stream_Odd
  refine (Flip_ok h (by omega) (by unfold I64; omega)).bind fun b _ => .cond (fun _ => ?_) (fun _ => ?_)
  · refine (Pick_ok (h.nxt (by omega)) (by omega) (by simp) (by simp)).bind fun r hr => .some ⟨(h.nxt (by omega)).nxt (by omega), ?_⟩
    have e1 : IntKind.wrap .i64 (low - 1) = low - 1 := wrap64 (by omega) (by omega)
    have e2 : IntKind.wrap .i64 (high + 1) = high + 1 := wrap64 (by omega) (by omega)
    rw [e1, e2] at hr
    simp only [List.mem_cons, List.not_mem_nil, or_false] at hr
    show (low - 1 ≤ r ∧ r ≤ high + 1) ∨ r = _ ∨ r = _
    omega
  · refine (Range_ok (h.nxt (by omega)) (by omega) ⟨by omega, by omega⟩ ⟨by omega, by omega⟩).bind fun r hr => .some ⟨hr.1, .inl ⟨by have := hr.2.1; show low - 1 ≤ r.2; omega, ?_⟩⟩
    have := hr.2.2.1 hlh
    show r.2 ≤ high + 1
    omega
end Go.Eng

/-
Versions and images: read, written, checked, both ways; the law VersionsRead.
-/
namespace Go.Eng
open Go
set_option linter.unusedVariables false
set_option linter.unusedSimpArgs false
theorem vEta (v : api_Version) : api_Version.mk v.Major v.Minor v.Patch = v := rfl
theorem rEta (r : api_Range) : api_Range.mk r.Low r.High = r := rfl
theorem iEta (x : api_Image) : api_Image.mk x.Version x.Models x.From x.Size = x := rfl
def vOrd (a b : api_Version) : Int := or0 (cmpI a.Major b.Major) (or0 (cmpI a.Minor b.Minor) (cmpI a.Patch b.Patch))
theorem vOrd_anti (a b : api_Version) : vOrd b a = - vOrd a b := by
  unfold vOrd; rw [cmpI_anti a.Major, cmpI_anti a.Minor, cmpI_anti a.Patch, or0_neg, or0_neg]
theorem cmpV_eq (a b : api_Version) : campaign_Compare a b = some (vOrd a b) := by
  unfold campaign_Compare
  rw [cmpInt_eq, cmpInt_eq, cmpInt_eq]
  simp only [Option.bind_some]
  rw [Or_eq _ (by simp)]
  simp only [Option.bind_some]
  congr 1
  unfold vOrd or0
  by_cases h1 : cmpI a.Major b.Major = 0 <;> by_cases h2 : cmpI a.Minor b.Minor = 0 <;> by_cases h3 : cmpI a.Patch b.Patch = 0 <;> simp [List.find?_cons, h1, h2, h3]
theorem ordV_eq (a b : api_Version) : fleetref2_VersionOrder a b = some (vOrd a b) := by
  unfold fleetref2_VersionOrder slices_Compare_int_int
  have i1 : IntKind.wrap .i64 ((0 : Int) + 1) = 1 := by decide
  have i2 : IntKind.wrap .i64 ((1 : Int) + 1) = 2 := by decide
  have i3 : IntKind.wrap .i64 ((2 : Int) + 1) = 3 := by decide
  have st : ∀ (k : Int) (x y : Int), (k = 0 ∧ x = a.Major ∧ y = b.Major) ∨ (k = 1 ∧ x = a.Minor ∧ y = b.Minor) ∨ (k = 2 ∧ x = a.Patch ∧ y = b.Patch) →
      slices_Compare_int_int_x1 [a.Major, a.Minor, a.Patch] [b.Major, b.Minor, b.Patch] k = some (if cmpI x y = 0 then .inl (k + 1) else .inr (.inr (cmpI x y))) := by
    intro k x y h
    unfold slices_Compare_int_int_x1
    rcases h with ⟨rfl, rfl, rfl⟩ | ⟨rfl, rfl, rfl⟩ | ⟨rfl, rfl, rfl⟩
    · have t1 : at? [a.Major, a.Minor, a.Patch] 0 = some a.Major := rfl
      have t2 : at? [b.Major, b.Minor, b.Patch] 0 = some b.Major := rfl
      simp only [t1, t2, cmpInt_eq, Option.bind_some, i1]
      by_cases h : cmpI a.Major b.Major = 0 <;> simp [h]
    · have t1 : at? [a.Major, a.Minor, a.Patch] 1 = some a.Minor := rfl
      have t2 : at? [b.Major, b.Minor, b.Patch] 1 = some b.Minor := rfl
      simp only [t1, t2, cmpInt_eq, Option.bind_some, i2]
      by_cases h : cmpI a.Minor b.Minor = 0 <;> simp [h]
    · have t1 : at? [a.Major, a.Minor, a.Patch] 2 = some a.Patch := rfl
      have t2 : at? [b.Major, b.Minor, b.Patch] 2 = some b.Patch := rfl
      simp only [t1, t2, cmpInt_eq, Option.bind_some, i3]
      by_cases h : cmpI a.Patch b.Patch = 0 <;> simp [h]
  have s0 := st 0 _ _ (.inl ⟨rfl, rfl, rfl⟩)
  have s1 := st 1 _ _ (.inr (.inl ⟨rfl, rfl, rfl⟩))
  have s2 := st 2 _ _ (.inr (.inr ⟨rfl, rfl, rfl⟩))
  have s3 : slices_Compare_int_int_x1 [a.Major, a.Minor, a.Patch] [b.Major, b.Minor, b.Patch] 3 = some (.inr (.inl ())) := by
    unfold slices_Compare_int_int_x1; simp
  unfold vOrd or0
  by_cases h1 : cmpI a.Major b.Major = 0
  · rw [if_pos h1] at s0 ⊢
    rw [loop_in s0]
    by_cases h2 : cmpI a.Minor b.Minor = 0
    · rw [if_pos h2] at s1 ⊢
      rw [show (0 : Int) + 1 = 1 from rfl, loop_in s1]
      by_cases h3 : cmpI a.Patch b.Patch = 0
      · rw [if_pos h3] at s2
        rw [show (1 : Int) + 1 = 2 from rfl, loop_in s2, show (2 : Int) + 1 = 3 from rfl, loop_out s3]
        simp [h3]
      · rw [if_neg h3] at s2
        rw [show (1 : Int) + 1 = 2 from rfl, loop_out s2]
        simp
    · rw [if_neg h2] at s1 ⊢
      rw [show (0 : Int) + 1 = 1 from rfl, loop_out s1]
      simp
  · rw [if_neg h1] at s0 ⊢
    rw [loop_out s0]
    simp
def verB (v : api_Version) : Bool := (decide (0 ≤ v.Major) && decide (v.Major ≤ 9999)) && ((decide (0 ≤ v.Minor) && decide (v.Minor ≤ 9999)) && (decide (0 ≤ v.Patch) && decide (v.Patch ≤ 9999)))
theorem out_b (n low high : Int) : (decide (n < low) || decide (high < n)) = !(decide (low ≤ n) && decide (n ≤ high)) := by
  by_cases h1 : n < low
  · have : ¬ low ≤ n := by omega
    simp [h1, this]
  · have h1' : low ≤ n := by omega
    by_cases h2 : high < n
    · have : ¬ n ≤ high := by omega
      simp [h1, h1', h2, this]
    · have : n ≤ high := by omega
      simp [h1, h1', h2, this]
theorem Version_eq (v : api_Version) : base_Version v = some (verB v) := by
  unfold base_Version base_Version_x1 verB
  simp only [Out_eq, out_b, Option.bind_some, Bool.not_not]
  cases (decide (0 ≤ v.Major) && decide (v.Major ≤ 9999)) <;> cases (decide (0 ≤ v.Minor) && decide (v.Minor ≤ 9999)) <;> rfl
theorem verFault_eq (v : api_Version) : fleetref2_versionFault v = some (cond (verB v) 0 1) := by
  unfold fleetref2_versionFault fleetref2_versionFault_x1 verB
  simp only [in_eq, Option.bind_some]
  cases (decide (0 ≤ v.Major) && decide (v.Major ≤ 9999)) <;> cases (decide (0 ≤ v.Minor) && decide (v.Minor ≤ 9999)) <;> cases (decide (0 ≤ v.Patch) && decide (v.Patch ≤ 9999)) <;> rfl
theorem scan_sum {α : Type} (g : Nat → α → Option Int) : ∀ (l : List α) (k : Nat), ((scan (fun i x => (g i x).map Sum.inr) k l).getD (Sum.inl ()) : Unit ⊕ Int) = (match scan g k l with | some v => .inr v | none => .inl ())
  | [], _ => rfl
  | c :: s, k => by
    simp only [scan]
    cases g k c with
    | none => exact scan_sum g s (k + 1)
    | some r => rfl
/-! ### Images -/
def chkMo (ms : List (List UInt8)) (i : Nat) (m : List UInt8) : Option Int :=
  cond (!keyB m) (some 5) (match i with
    | 0 => none
    | j + 1 => match ms[j]? with
      | some y => cond (Op.bytesLess m y || decide (m = y)) (some 7) none
      | none => none)
theorem mods_p {x : api_Image} (hb : ∀ m ∈ x.Models, m.length ≤ 1000) (hl : x.Models.length ≤ 1000) : loopO (campaign_CheckImages_x3 x) 0 = some (match scan (chkMo x.Models) 0 x.Models with | some v => .inr v | none => .inl ()) := by
  rw [range_loop (l := x.Models) (fun i m => (chkMo x.Models i m).map .inr) (.inl ()) (by omega), scan_sum]
  · intro i hi
    have hk := hb _ (List.getElem_mem hi)
    unfold campaign_CheckImages_x3 campaign_CheckImages_x4 chkMo
    have h0 : (i : Int) < x.Models.length := by omega
    simp only [h0, decide_true, cond_true, at_nat hi, Option.bind_some, Key_eq _ (show ((x.Models[i].length : Nat) : Int) ≤ 9223372036854775807 by omega)]
    cases keyB x.Models[i] with
    | false => rfl
    | true =>
      cases i with
      | zero => rfl
      | succ j =>
        have e1 : IntKind.wrap .i64 (((j + 1 : Nat) : Int) - 1) = (j : Int) := by rw [wrap64 (by omega) (by omega)]; omega
        have hj : j < x.Models.length := by omega
        have hp : (0 : Int) < ((j + 1 : Nat) : Int) := by omega
        simp only [Bool.not_true, cond_false, hp, decide_true, cond_true, e1, at_nat hj, Option.bind_some, List.getElem?_eq_getElem hj]
        cases (Op.bytesLess x.Models[j + 1] x.Models[j] || decide (x.Models[j + 1] = x.Models[j])) <;> rfl
  · unfold campaign_CheckImages_x3; simp
theorem mods_r {x : api_Image} (hb : ∀ m ∈ x.Models, m.length ≤ 1000) (hl : x.Models.length ≤ 1000) : loopO (fleetref2_ImagesFault_x3 x) 0 = some (match scan (chkMo x.Models) 0 x.Models with | some v => .inr v | none => .inl ()) := by
  rw [range_loop (l := x.Models) (fun i m => (chkMo x.Models i m).map .inr) (.inl ()) (by omega), scan_sum]
  · intro i hi
    have hk := hb _ (List.getElem_mem hi)
    unfold fleetref2_ImagesFault_x3 fleetref2_ImagesFault_x4 chkMo
    have h0 : (i : Int) < x.Models.length := by omega
    simp only [h0, decide_true, cond_true, at_nat hi, Option.bind_some, QKey_eq _ (show ((x.Models[i].length : Nat) : Int) ≤ 9223372036854775807 by omega)]
    cases keyB x.Models[i] with
    | false => rfl
    | true =>
      cases i with
      | zero => rfl
      | succ j =>
        have e1 : IntKind.wrap .i64 (((j + 1 : Nat) : Int) - 1) = (j : Int) := by rw [wrap64 (by omega) (by omega)]; omega
        have hj : j < x.Models.length := by omega
        have hp : (0 : Int) < ((j + 1 : Nat) : Int) := by omega
        simp only [Bool.not_true, cond_false, hp, decide_true, cond_true, e1, at_nat hj, Option.bind_some, List.getElem?_eq_getElem hj]
        cases (Op.bytesLess x.Models[j + 1] x.Models[j] || decide (x.Models[j + 1] = x.Models[j])) <;> rfl
  · unfold fleetref2_ImagesFault_x3; simp
def covB (rs : List api_Range) (v : api_Version) : Bool := rs.any fun r => decide (vOrd r.Low v ≤ 0) && decide (vOrd v r.High ≤ 0)
theorem cov1_eq (r : api_Range) (v : api_Version) : campaign_covers_1 r v = some (decide (vOrd r.Low v ≤ 0) && decide (vOrd v r.High ≤ 0)) := by
  unfold campaign_covers_1 campaign_covers_1_x1
  simp only [vEta, cmpV_eq, Option.bind_some]
  cases decide (vOrd r.Low v ≤ 0) <;> rfl
theorem fit1_eq (r : api_Range) (v : api_Version) : fleetref2_fits_1 r v = some (decide (vOrd r.Low v ≤ 0) && decide (vOrd v r.High ≤ 0)) := by
  unfold fleetref2_fits_1 fleetref2_fits_1_x1
  simp only [vEta, ordV_eq, Option.bind_some]
  cases decide (vOrd r.Low v ≤ 0) <;> rfl
theorem covers_eq (x : api_Image) (v : api_Version) (hl : x.From.length ≤ 1000) : campaign_covers x v = some (covB x.From v) := by
  unfold campaign_covers slices_ContainsFunc_api_Range_api_Range_f1_campaign_covers_1 slices_IndexFunc_api_Range_api_Range_f1_campaign_covers_1
  obtain ⟨y, h1, h2⟩ := find_loop (l := x.From) (f := slices_IndexFunc_api_Range_api_Range_f1_campaign_covers_1_x1 x.From v) (fun r => decide (vOrd r.Low v ≤ 0) && decide (vOrd v r.High ≤ 0)) (by omega) (fun i h => by
    unfold slices_IndexFunc_api_Range_api_Range_f1_campaign_covers_1_x1
    have hc : (i : Int) < x.From.length := by omega
    simp only [hc, decide_true, cond_true, at_nat h, Option.bind_some, vEta, rEta, cov1_eq]
    cases (decide (vOrd x.From[i].Low v ≤ 0) && decide (vOrd v x.From[i].High ≤ 0)) <;> rfl) (by unfold slices_IndexFunc_api_Range_api_Range_f1_campaign_covers_1_x1; simp)
  rw [h1]
  unfold covB
  rw [← h2]
  cases y <;> rfl
theorem fits_eq (x : api_Image) (v : api_Version) (hl : x.From.length ≤ 1000) : fleetref2_fits x v = some (covB x.From v) := by
  unfold fleetref2_fits slices_ContainsFunc_api_Range_api_Range_f1_fleetref2_fits_1 slices_IndexFunc_api_Range_api_Range_f1_fleetref2_fits_1
  obtain ⟨y, h1, h2⟩ := find_loop (l := x.From) (f := slices_IndexFunc_api_Range_api_Range_f1_fleetref2_fits_1_x1 x.From v) (fun r => decide (vOrd r.Low v ≤ 0) && decide (vOrd v r.High ≤ 0)) (by omega) (fun i h => by
    unfold slices_IndexFunc_api_Range_api_Range_f1_fleetref2_fits_1_x1
    have hc : (i : Int) < x.From.length := by omega
    simp only [hc, decide_true, cond_true, at_nat h, Option.bind_some, vEta, rEta, fit1_eq]
    cases (decide (vOrd x.From[i].Low v ≤ 0) && decide (vOrd v x.From[i].High ≤ 0)) <;> rfl) (by unfold slices_IndexFunc_api_Range_api_Range_f1_fleetref2_fits_1_x1; simp)
  rw [h1]
  unfold covB
  rw [← h2]
  cases y <;> rfl
def chkRn (rs : List api_Range) (i : Nat) (r : api_Range) : Option Int :=
  cond (!verB r.Low) (some 1) (cond (!verB r.High) (some 1) (cond (decide (0 < vOrd r.Low r.High)) (some 1) (match i with
    | 0 => none
    | j + 1 => match rs[j]? with
      | some y => cond (decide (vOrd r.Low y.High ≤ 0)) (some 7) none
      | none => none)))
def rngV (x : api_Image) : Int := if 20 < x.From.length then 2 else match scan (chkRn x.From) 0 x.From with
  | some e => e
  | none => cond (covB x.From x.Version) 14 0
theorem ranges_p {x : api_Image} (hl : x.From.length ≤ 1000) : campaign_rangesFault x = some (rngV x) := by
  unfold campaign_rangesFault rngV
  by_cases h5 : 20 < x.From.length
  · have : (20 : Int) < x.From.length := by omega
    simp [this, h5]
  have h5' : ¬ (20 : Int) < x.From.length := by omega
  simp only [h5', decide_false, cond_false, h5, if_false]
  rw [range_loop (l := x.From) (fun i r => (chkRn x.From i r).map .inr) (.inl ()) (by omega), scan_sum]
  · simp only [Option.bind_some]
    cases scan (chkRn x.From) 0 x.From with
    | some e => rfl
    | none =>
      simp only [vEta, iEta, covers_eq x x.Version hl, Option.bind_some]
      cases covB x.From x.Version <;> rfl
  · intro i hi
    unfold campaign_rangesFault_x1 campaign_rangesFault_x2 campaign_rangesFault_x3 chkRn
    have h0 : (i : Int) < x.From.length := by omega
    simp only [h0, decide_true, cond_true, at_nat hi, Option.bind_some, vEta, Version_eq, cmpV_eq]
    cases verB x.From[i].Low with
    | false => rfl
    | true =>
    cases verB x.From[i].High with
    | false => rfl
    | true =>
    simp only [Bool.not_true, cond_false, Option.bind_some]
    cases decide (0 < vOrd x.From[i].Low x.From[i].High) with
    | true => rfl
    | false =>
      cases i with
      | zero => rfl
      | succ j =>
        have e1 : IntKind.wrap .i64 (((j + 1 : Nat) : Int) - 1) = (j : Int) := by rw [wrap64 (by omega) (by omega)]; omega
        have hj : j < x.From.length := by omega
        have hp : (0 : Int) < ((j + 1 : Nat) : Int) := by omega
        simp only [cond_false, hp, decide_true, cond_true, e1, at_nat hj, Option.bind_some, List.getElem?_eq_getElem hj]
        cases decide (vOrd x.From[j + 1].Low x.From[j].High ≤ 0) <;> rfl
  · unfold campaign_rangesFault_x1; simp
theorem both_r (r : api_Range) : loopO (fleetref2_rangesFault_x2 r) 0 = some (cond (verB r.Low) (cond (verB r.High) (.inl ()) (.inr 1)) (.inr 1)) := by
  have i1 : IntKind.wrap .i64 ((0 : Int) + 1) = 1 := by decide
  have i2 : IntKind.wrap .i64 ((1 : Int) + 1) = 2 := by decide
  have t0 : at? [r.Low, r.High] 0 = some r.Low := rfl
  have t1 : at? [r.Low, r.High] 1 = some r.High := rfl
  have c0 : (0 : Int) < (([r.Low, r.High] : List api_Version).length : Int) := by simp
  have c1 : (1 : Int) < (([r.Low, r.High] : List api_Version).length : Int) := by simp
  have c2 : ¬ (2 : Int) < (([r.Low, r.High] : List api_Version).length : Int) := by simp
  have s0 : fleetref2_rangesFault_x2 r 0 = some (cond (verB r.Low) (.inl 1) (.inr (.inr 1))) := by
    unfold fleetref2_rangesFault_x2
    simp only [vEta, c0, decide_true, cond_true, t0, Option.bind_some, verFault_eq, i1]
    cases verB r.Low <;> rfl
  have s1 : fleetref2_rangesFault_x2 r 1 = some (cond (verB r.High) (.inl 2) (.inr (.inr 1))) := by
    unfold fleetref2_rangesFault_x2
    simp only [vEta, c1, decide_true, cond_true, t1, Option.bind_some, verFault_eq, i2]
    cases verB r.High <;> rfl
  have s2 : fleetref2_rangesFault_x2 r 2 = some (.inr (.inl ())) := by
    unfold fleetref2_rangesFault_x2
    simp only [vEta, c2, decide_false, cond_false]
  cases h1 : verB r.Low with
  | false => rw [h1] at s0; exact loop_out s0
  | true =>
    rw [h1] at s0
    rw [loop_in s0]
    cases h2 : verB r.High with
    | false => rw [h2] at s1; exact loop_out s1
    | true =>
      rw [h2] at s1
      rw [loop_in s1]
      exact loop_out s2
theorem ranges_r {x : api_Image} (hl : x.From.length ≤ 1000) : fleetref2_rangesFault x = some (rngV x) := by
  unfold fleetref2_rangesFault rngV
  by_cases h5 : 20 < x.From.length
  · have : (20 : Int) < x.From.length := by omega
    simp [this, h5]
  have h5' : ¬ (20 : Int) < x.From.length := by omega
  simp only [h5', decide_false, cond_false, h5, if_false]
  rw [range_loop (l := x.From) (fun i r => (chkRn x.From i r).map .inr) (.inl ()) (by omega), scan_sum]
  · simp only [Option.bind_some]
    cases scan (chkRn x.From) 0 x.From with
    | some e => rfl
    | none =>
      simp only [vEta, iEta, fits_eq x x.Version hl, Option.bind_some]
      cases covB x.From x.Version <;> rfl
  · intro i hi
    unfold fleetref2_rangesFault_x1 fleetref2_rangesFault_x3 chkRn
    have h0 : (i : Int) < x.From.length := by omega
    simp only [h0, decide_true, cond_true, at_nat hi, Option.bind_some, both_r, vEta, ordV_eq]
    cases verB x.From[i].Low with
    | false => rfl
    | true =>
    cases verB x.From[i].High with
    | false => rfl
    | true =>
    simp only [Bool.not_true, cond_false, cond_true, Option.bind_some]
    cases decide (0 < vOrd x.From[i].Low x.From[i].High) with
    | true => rfl
    | false =>
      cases i with
      | zero => rfl
      | succ j =>
        have e1 : IntKind.wrap .i64 (((j + 1 : Nat) : Int) - 1) = (j : Int) := by rw [wrap64 (by omega) (by omega)]; omega
        have hj : j < x.From.length := by omega
        have hp : (0 : Int) < ((j + 1 : Nat) : Int) := by omega
        simp only [cond_false, hp, decide_true, cond_true, e1, at_nat hj, Option.bind_some, List.getElem?_eq_getElem hj]
        cases decide (vOrd x.From[j + 1].Low x.From[j].High ≤ 0) <;> rfl
  · unfold fleetref2_rangesFault_x1; simp
def ordB (l : List api_Image) (i : Nat) (x : api_Image) : Bool := match i with
  | 0 => false
  | j + 1 => match l[j]? with
    | some y => decide (vOrd x.Version y.Version ≤ 0)
    | none => false
def chkIm (l : List api_Image) (i : Nat) (x : api_Image) : Option Int :=
  cond (!verB x.Version) (some 1) (cond (ordB l i x) (some 7) (cond (decide (x.Models.length = 0)) (some 3) (cond (decide (20 < x.Models.length)) (some 2) (match scan (chkMo x.Models) 0 x.Models with
        | some e => some e
        | none => cond (!decide (rngV x = 0)) (some (rngV x)) (cond (!(decide (1 ≤ x.Size) && decide (x.Size ≤ 1000000000))) (some 1) none)))))
def imgsV (l : List api_Image) : Int := if 200 < l.length then 2 else (scan (chkIm l) 0 l).getD 0
def I1 (x : api_Image) : Prop := x.Models.length ≤ 1000 ∧ x.From.length ≤ 1000 ∧ ∀ m ∈ x.Models, m.length ≤ 1000
theorem scan_fin {α : Type} (g : Nat → α → Option Int) (l : List α) : (match (match scan g 0 l with | some v => Sum.inr v | none => Sum.inl () : Unit ⊕ Int) with | .inl _ => (some 0 : Option Int) | .inr v => some v) = some ((scan g 0 l).getD 0) := by
  cases scan g 0 l <;> rfl
theorem images_p {l : List api_Image} (hb : All I1 l) (hl : l.length ≤ 1000) : campaign_CheckImages l = some (imgsV l) := by
  unfold campaign_CheckImages imgsV
  by_cases h5 : 200 < l.length
  · have : (200 : Int) < l.length := by omega
    simp [this, h5]
  have h5' : ¬ (200 : Int) < l.length := by omega
  simp only [h5', decide_false, cond_false, h5, if_false]
  rw [range_loop (l := l) (fun i x => (chkIm l i x).map .inr) (.inl ()) (by omega), scan_sum]
  · exact scan_fin _ _
  · intro i hi
    obtain ⟨b1, b2, b3⟩ := hb l[i] (List.getElem_mem hi)
    unfold campaign_CheckImages_x1 campaign_CheckImages_x2 chkIm
    have h0 : (i : Int) < l.length := by omega
    simp only [h0, decide_true, cond_true, at_nat hi, Option.bind_some, vEta, iEta, Version_eq, cmpV_eq, mods_p b3 b1, ranges_p b2, Out_eq, out_b]
    cases verB l[i].Version with
    | false => rfl
    | true =>
    have hx : (cond (decide ((0 : Int) < (i : Int))) ((at? l (IntKind.wrap .i64 ((i : Int) - 1))).bind fun vy7 => some (decide (vOrd l[i].Version vy7.Version ≤ 0))) (some false)) = some (ordB l i l[i]) := by
      unfold ordB
      cases i with
      | zero => rfl
      | succ j =>
        have e1 : IntKind.wrap .i64 (((j + 1 : Nat) : Int) - 1) = (j : Int) := by rw [wrap64 (by omega) (by omega)]; omega
        have hj : j < l.length := by omega
        have hp : (0 : Int) < ((j + 1 : Nat) : Int) := by omega
        simp only [hp, decide_true, cond_true, e1, at_nat hj, Option.bind_some, List.getElem?_eq_getElem hj]
    rw [hx]
    simp only [Bool.not_true, cond_false, Option.bind_some]
    generalize ordB l i l[i] = B
    cases B with
    | true => rfl
    | false =>
      simp only [cond_false]
      by_cases z0 : l[i].Models.length = 0
      · have : ((l[i].Models.length : Nat) : Int) = 0 := by omega
        simp only [z0, this, decide_true, cond_true]; rfl
      · have z0' : ¬ ((l[i].Models.length : Nat) : Int) = 0 := by omega
        by_cases z1 : 20 < l[i].Models.length
        · have : (20 : Int) < ((l[i].Models.length : Nat) : Int) := by omega
          simp only [z0, z0', z1, this, decide_true, decide_false, cond_true, cond_false]; rfl
        · have z1' : ¬ (20 : Int) < ((l[i].Models.length : Nat) : Int) := by omega
          simp only [z0, z0', z1, z1', decide_false, cond_false]
          cases scan (chkMo l[i].Models) 0 l[i].Models with
          | some e => rfl
          | none =>
            simp only
            cases decide (rngV l[i] = 0) with
            | false => rfl
            | true =>
              simp only [Bool.not_true, cond_false]
              cases (decide (1 ≤ l[i].Size) && decide (l[i].Size ≤ 1000000000)) <;> rfl
  · unfold campaign_CheckImages_x1; simp
theorem images_r {l : List api_Image} (hb : All I1 l) (hl : l.length ≤ 1000) : fleetref2_ImagesFault l = some (imgsV l) := by
  unfold fleetref2_ImagesFault imgsV
  by_cases h5 : 200 < l.length
  · have : (200 : Int) < l.length := by omega
    simp [this, h5]
  have h5' : ¬ (200 : Int) < l.length := by omega
  simp only [h5', decide_false, cond_false, h5, if_false]
  rw [range_loop (l := l) (fun i x => (chkIm l i x).map .inr) (.inl ()) (by omega), scan_sum]
  · exact scan_fin _ _
  · intro i hi
    obtain ⟨b1, b2, b3⟩ := hb l[i] (List.getElem_mem hi)
    unfold fleetref2_ImagesFault_x1 fleetref2_ImagesFault_x2 chkIm
    have h0 : (i : Int) < l.length := by omega
    simp only [h0, decide_true, cond_true, at_nat hi, Option.bind_some, vEta, iEta, verFault_eq, ordV_eq, mods_r b3 b1, ranges_r b2, in_eq]
    cases verB l[i].Version with
    | false => rfl
    | true =>
    have hx : (cond (decide ((0 : Int) < (i : Int))) ((at? l (IntKind.wrap .i64 ((i : Int) - 1))).bind fun vy7 => some (decide (0 ≤ vOrd vy7.Version l[i].Version))) (some false)) = some (ordB l i l[i]) := by
      unfold ordB
      cases i with
      | zero => rfl
      | succ j =>
        have e1 : IntKind.wrap .i64 (((j + 1 : Nat) : Int) - 1) = (j : Int) := by rw [wrap64 (by omega) (by omega)]; omega
        have hj : j < l.length := by omega
        have hp : (0 : Int) < ((j + 1 : Nat) : Int) := by omega
        have an := vOrd_anti l[j].Version l[j + 1].Version
        simp only [hp, decide_true, cond_true, e1, at_nat hj, Option.bind_some, List.getElem?_eq_getElem hj]
        congr 1
        rw [decide_eq_decide]
        omega
    rw [hx]
    simp only [Bool.not_true, cond_false, cond_true, decide_true, Option.bind_some]
    generalize ordB l i l[i] = B
    cases B with
    | true => rfl
    | false =>
      simp only [cond_false]
      by_cases z0 : l[i].Models.length = 0
      · have : ((l[i].Models.length : Nat) : Int) = 0 := by omega
        simp only [z0, this, decide_true, cond_true]; rfl
      · have z0' : ¬ ((l[i].Models.length : Nat) : Int) = 0 := by omega
        by_cases z1 : 20 < l[i].Models.length
        · have : (20 : Int) < ((l[i].Models.length : Nat) : Int) := by omega
          simp only [z0, z0', z1, this, decide_true, decide_false, cond_true, cond_false]; rfl
        · have z1' : ¬ (20 : Int) < ((l[i].Models.length : Nat) : Int) := by omega
          simp only [z0, z0', z1, z1', decide_false, cond_false]
          cases scan (chkMo l[i].Models) 0 l[i].Models with
          | some e => rfl
          | none =>
            simp only
            cases decide (rngV l[i] = 0) with
            | false => rfl
            | true =>
              simp only [Bool.not_true, cond_false]
              cases (decide (1 ≤ l[i].Size) && decide (l[i].Size ≤ 1000000000)) <;> rfl
  · unfold fleetref2_ImagesFault_x1; simp
/-! ### What streams make -/
theorem whole_eq (n : Int) : fleetmake_whole n = some () := rfl
theorem RightVersion_okB {k : Nat} {s : fleetmake_Stream} (h : StrOk k s) (hk : k + 10 < 1099511627776) : Ok (fleetmake_Stream_RightVersion s) (fun r => StrOk (k + 3) r.1 ∧ verB r.2 = true) := by
  unfold fleetmake_Stream_RightVersion
  refine (Range_ok h (by omega) (by omega) (by omega)).bind fun ⟨s1, a⟩ ⟨a1, a2, a3, _⟩ => ?_
  have a3 := a3 (by omega)
  simp only at a1 a2 a3
  refine (Pick_ok a1 (by omega) (by simp) (by simp)).bind fun b hb => ?_
  refine (Pick_ok (a1.nxt (by omega)) (by omega) (by simp) (by simp)).bind fun c hc => ?_
  have hb : 0 ≤ b ∧ b ≤ 9999 := by simp at hb; omega
  have hc : 0 ≤ c ∧ c ≤ 9999 := by simp at hc; omega
  exact .some ⟨(a1.nxt (by omega)).nxt (by omega), by unfold verB; simp; omega⟩
theorem SVersion_ok {k : Nat} {s : fleetmake_Stream} (h : StrOk k s) (hk : k + 20 < 1099511627776) : Ok (fleetmake_Stream_Version s) (fun r => StrOk (k + 10) r.1) := by
  unfold fleetmake_Stream_Version
  refine (RightVersion_okB h (by omega)).bind fun ⟨s1, v⟩ ⟨a1, _⟩ => ?_
  simp only at a1
  refine Ok.bind (P := fun r : fleetmake_Stream × api_Version => StrOk (k + 10) r.1) ?_ fun ⟨s2, v2⟩ h2 => .some h2
  unfold fleetmake_Stream_Version_x1
  refine (Flip_ok a1 (by omega) (by unfold I64; omega)).bind fun b _ => ?_
  refine .cond (fun _ => ?_) (fun _ => .some ((a1.nxt (by omega)).mono (by omega)))
  refine (Odd_ok (a1.nxt (by omega)) (by omega) (by omega) (by omega) (by omega)).bind fun ⟨s3, x⟩ ⟨b1, _⟩ => ?_
  simp only at b1
  refine (Odd_ok b1 (by omega) (by omega) (by omega) (by omega)).bind fun ⟨s4, y⟩ ⟨b2, _⟩ => ?_
  simp only at b2
  exact .some (b2.mono (by omega))
theorem line_eq {v : api_Version} (h : verB v = true) : ∃ t, fleetref2_VersionLine v = some t ∧ t.length ≤ 100 ∧ campaign_VersionText v = some (t, 0) := by
  have hf : campaign_versionFault v = some 0 := by
    unfold campaign_versionFault
    rw [Version_eq, h]; rfl
  unfold verB at h
  simp only [Bool.and_eq_true, decide_eq_true_eq] at h
  obtain ⟨h1, h2, h3⟩ := h
  have it : ∀ n : Int, 0 ≤ n ∧ n ≤ 9999 → strconv_Itoa n = some (Lib.itoa n) ∧ (Lib.itoa n).length ≤ 21 := fun n hn => ⟨by unfold strconv_Itoa; rw [gd_true (by simp; omega)], Lib.itoa_length_le n (by omega) (by omega)⟩
  obtain ⟨p1, q1⟩ := it _ h1
  obtain ⟨p2, q2⟩ := it _ h2
  obtain ⟨p3, q3⟩ := it _ h3
  refine ⟨(((Lib.itoa v.Major ++ [46]) ++ Lib.itoa v.Minor) ++ [46]) ++ Lib.itoa v.Patch, ?_, by simp; omega, ?_⟩
  · unfold fleetref2_VersionLine
    rw [p1, p2, p3]
    simp only [Option.bind_some]
    rw [gd_true (ble_lim (by simp; omega)), gd_true (ble_lim (by simp; omega)), gd_true (ble_lim (by simp; omega)), gd_true (ble_lim (by simp; omega))]
  · unfold campaign_VersionText
    rw [hf, p1, p2, p3]
    simp only [Option.bind_some, decide_true, Bool.not_true, cond_false]
    rw [gd_true (ble_lim (by simp; omega)), gd_true (ble_lim (by simp; omega)), gd_true (ble_lim (by simp; omega)), gd_true (ble_lim (by simp; omega))]
theorem rune_len : (([48, 49, 50, 51, 46] : List UInt8).all fun c => decide ((runeS (IntKind.wrap .i32 ((c.toNat : Nat) : Int))).length ≤ 4)) = true := by kernel_rfl
theorem sub_len {α : Type} {l : List α} {a b : Int} (h : 0 ≤ a ∧ a ≤ b ∧ b ≤ l.length) : ∃ r, sub? l a b = some r ∧ r.length ≤ l.length := by
  unfold sub?
  rw [if_pos h]
  exact ⟨_, rfl, by simp; omega⟩
theorem Changed_ok {k : Nat} {s : fleetmake_Stream} {t : List UInt8} (h : StrOk k s) (hk : k + 20 < 1099511627776) (ht : t.length ≤ 100000) : Ok (fleetmake_Stream_Changed s t [48, 49, 50, 51, 46]) (fun r => StrOk (k + 3) r.1 ∧ r.2.length ≤ t.length + 5) := by
  unfold fleetmake_Stream_Changed
  have hw : ¬ (([48, 49, 50, 51, 46] : List UInt8) = []) := by simp
  refine Ok.bind (P := fun b => b = false → t ≠ []) ?_ fun b hb => ?_
  · unfold fleetmake_Stream_Changed_x1
    refine .cond (fun _ => .some fun h => by cases h) (fun h1 => .some fun _ e => by simp [e] at h1)
  refine .cond (fun _ => .some ⟨h.mono (by omega), by simp⟩) (fun hb0 => ?_)
  have hne := hb hb0
  have hpos : 0 < t.length := List.length_pos_iff.2 hne
  refine (Next_ok h (by omega) (by unfold I64; omega)).bind fun r hr => ?_
  have hr := hr.1 (by omega)
  have n1 := h.nxt (by omega)
  refine (Next_ok n1 (by omega) (by unfold I64; simp)).bind fun q hq => ?_
  have hq := hq.1 (by simp)
  refine (at_mem hq.1 hq.2).bind fun c hc => ?_
  have n2 := n1.nxt (by omega)
  have hrl := List.all_eq_true.1 rune_len c hc
  have hrl : (runeS (IntKind.wrap .i32 ((c.toNat : Nat) : Int))).length ≤ 4 := of_decide_eq_true hrl
  refine (Next_ok n2 (by omega) (by unfold I64; omega)).bind fun m _ => ?_
  have n3 := n2.nxt (by omega)
  have w1 : IntKind.wrap .i64 (r + 1) = r + 1 := wrap64 (by omega) (by omega)
  have len1 : ∀ {a b : Int} {x : List UInt8}, sub? t a b = some x → 0 ≤ a ∧ a ≤ b ∧ b ≤ t.length → (x.length : Int) = b - a := fun {a b x} hx hh => by
    unfold sub? at hx
    rw [if_pos hh] at hx
    injection hx with hx
    rw [← hx]
    simp
    omega
  obtain ⟨x1, e1, _⟩ := sub_len (l := t) (a := 0) (b := r) (by omega)
  obtain ⟨x2, e2, _⟩ := sub_len (l := t) (a := r + 1) (b := (t.length : Int)) (by omega)
  obtain ⟨x3, e3, _⟩ := sub_len (l := t) (a := r) (b := (t.length : Int)) (by omega)
  have l1 := len1 e1 (by omega)
  have l2 := len1 e2 (by omega)
  have l3 := len1 e3 (by omega)
  rw [w1, e1, e2, e3]
  simp only [Option.bind_some]
  refine .cond (fun _ => ?_) (fun _ => .cond (fun _ => ?_) (fun _ => ?_))
  · exact .gd (ble_lim (by omega)) (.gd (ble_lim (by simp; omega)) (.some ⟨n3, by simp; omega⟩))
  · exact .gd (ble_lim (by omega)) (.gd (ble_lim (by simp; omega)) (.some ⟨n3, by simp; omega⟩))
  · exact .gd (ble_lim (by omega)) (.some ⟨n3, by simp; omega⟩)
theorem VersionText_ok {k : Nat} {s : fleetmake_Stream} (h : StrOk k s) (hk : k + 100 < 1099511627776) : Ok (fleetmake_Stream_VersionText s) (fun r => StrOk (k + 30) r.1 ∧ r.2.length ≤ 1000) := by
  unfold fleetmake_Stream_VersionText
  refine (RightVersion_okB h (by omega)).bind fun ⟨s1, v⟩ ⟨a1, a2⟩ => ?_
  simp only at a1 a2
  obtain ⟨t, t1, t2, _⟩ := line_eq a2
  simp only [t1, Option.bind_some]
  refine Ok.bind (P := fun r : fleetmake_Stream × List UInt8 => StrOk (k + 10) r.1 ∧ r.2.length ≤ 100) ?_ fun ⟨s2, u⟩ ⟨b1, b2⟩ => ?_
  · unfold fleetmake_Stream_VersionText_x1
    refine (Flip_ok a1 (by omega) (by unfold I64; omega)).bind fun b _ => ?_
    refine .cond (fun _ => ?_) (fun _ => .some ⟨(a1.nxt (by omega)).mono (by omega), t2⟩)
    refine (Some_ok (a1.nxt (by omega)) (by omega) (by simp) (by simp)).bind fun y hy => ?_
    refine .some ⟨((a1.nxt (by omega)).nxt (by omega)).mono (by omega), ?_⟩
    simp at hy
    rcases hy with rfl | rfl | rfl | rfl | rfl | rfl | rfl | rfl <;> simp
  simp only at b1 b2
  refine (Pick_ok b1 (by omega) (by simp) (by simp)).bind fun n hn => ?_
  have hn : 0 ≤ n ∧ n ≤ 1 := by simp at hn; omega
  refine Ok.bind (P := fun r : fleetmake_Stream × List UInt8 => StrOk (k + 30) r.1 ∧ r.2.length ≤ 1000) ?_ fun ⟨s3, u3⟩ h3 => .some h3
  refine loop_ok (fun q : fleetmake_Stream × List UInt8 × Int => ∃ i : Nat, q.2.2 = (i : Int) ∧ (i : Int) ≤ n ∧ StrOk (k + 12 + 3 * i) q.1 ∧ q.2.1.length ≤ 100 + 5 * i) (fun q => (n - q.2.2).toNat) ?_ ⟨0, rfl, by omega, (b1.nxt (by omega)).mono (by omega), by simpa using b2⟩
  rintro ⟨s4, u4, q⟩ ⟨i, e1, e2, e3, e4⟩
  simp only at e1 e3 e4
  subst e1
  unfold fleetmake_Stream_VersionText_x2
  refine .cond (fun hc => ?_) (fun hc => .some ⟨e3.mono (by omega), by simp only; omega⟩)
  have hc : (i : Int) < n := by simpa using hc
  refine (Changed_ok e3 (by omega) (by omega)).bind fun ⟨s5, u5⟩ ⟨c1, c2⟩ => ?_
  simp only at c1 c2
  rw [wrap64 (n := (i : Int) + 1) (by omega) (by omega)]
  exact .some ⟨⟨i + 1, by simp, by omega, c1.mono (by omega), by simp only; omega⟩, by simp only; omega⟩
def Im0 (x : api_Image) : Prop := x.Models.length ≤ 10 ∧ x.From.length ≤ 10 ∧ ∀ m ∈ x.Models, m.length ≤ 10
theorem RightImages_ok {k : Nat} {s : fleetmake_Stream} (h : StrOk k s) (hk : k + 1000 < 1099511627776) : Ok (fleetmake_Stream_RightImages s) (fun r => StrOk (k + 200) r.1 ∧ All Im0 r.2 ∧ r.2.length ≤ 8) := by
  unfold fleetmake_Stream_RightImages
  refine Ok.bind (P := fun r : fleetmake_Stream × List api_Image => StrOk (k + 200) r.1 ∧ All Im0 r.2 ∧ r.2.length ≤ 8) ?_ fun ⟨s1, l⟩ hr => .some hr
  refine loop_ok (fun q : fleetmake_Stream × List api_Image × Int => ∃ i : Nat, q.2.2 = ((i + 2 : Nat) : Int) ∧ i ≤ 4 ∧ StrOk (k + 40 * i) q.1 ∧ All Im0 q.2.1 ∧ q.2.1.length ≤ 2 * i) (fun q => (6 - q.2.2).toNat) ?_ ⟨0, rfl, by omega, h.mono (by omega), All.nil, by simp⟩
  rintro ⟨s1, l, q⟩ ⟨i, e1, e2, e3, e4, e5⟩
  simp only at e1 e3 e4 e5
  subst e1
  unfold fleetmake_Stream_RightImages_x1
  refine .cond (fun hc => ?_) (fun hc => .some ⟨e3.mono (by omega), e4, by simp only; omega⟩)
  have hc : ((i + 2 : Nat) : Int) ≤ 5 := by simpa using hc
  refine Ok.bind (P := fun r : fleetmake_Stream × List api_Image => StrOk (k + 40 * (i + 1)) r.1 ∧ All Im0 r.2 ∧ r.2.length ≤ 2 * (i + 1)) ?_ fun ⟨s2, l2⟩ ⟨g1, g2, g3⟩ => ?_
  · refine loop_ok (fun q : fleetmake_Stream × List api_Image × Int => ∃ j : Nat, q.2.2 = (j : Int) ∧ j ≤ 2 ∧ StrOk (k + 40 * i + 15 * j) q.1 ∧ All Im0 q.2.1 ∧ q.2.1.length ≤ 2 * i + j) (fun q => (2 - q.2.2).toNat) ?_ ⟨0, rfl, by omega, e3.mono (by omega), e4, by simpa using e5⟩
    rintro ⟨s2, l2, q⟩ ⟨j, f1, f2, f3, f4, f5⟩
    simp only at f1 f3 f4 f5
    subst f1
    unfold fleetmake_Stream_RightImages_x2
    refine .cond (fun hj => ?_) (fun hj => .some ⟨f3.mono (by omega), f4, by simp only; omega⟩)
    have hj : j < 2 := by simp at hj; omega
    rw [wrap64 (n := (j : Int) + 1) (by omega) (by omega)]
    refine Ok.bind (P := fun r : fleetmake_Stream × List api_Image => StrOk (k + 40 * i + 15 * (j + 1)) r.1 ∧ All Im0 r.2 ∧ r.2.length ≤ 2 * i + (j + 1)) ?_ fun ⟨s3, l3⟩ ⟨g1, g2, g3⟩ => .some ⟨⟨j + 1, by simp, by omega, g1, g2, g3⟩, by simp only; omega⟩
    unfold fleetmake_Stream_RightImages_x3
    refine (at_mem (l := ([0, 5] : List Int)) (n := (j : Int)) (by omega) (by simp; omega)).bind fun mn _ => ?_
    refine (Flip_ok f3 (by omega) (by unfold I64; omega)).bind fun b _ => ?_
    have n1 := f3.nxt (by omega)
    refine .cond (fun _ => .some ⟨n1.mono (by omega), f4, by simp only; omega⟩) (fun _ => ?_)
    refine (Next_ok n1 (by omega) (by unfold I64; omega)).bind fun r hr => ?_
    have hr := hr.1 (by omega)
    refine (at_mem (l := [[[109]], [[109]], [[109], [110]], [[110]]]) hr.1 (by simp; omega)).bind fun ms hms => ?_
    have hms : ms.length ≤ 10 ∧ ∀ m ∈ ms, m.length ≤ 10 := by
      simp only [List.mem_cons, List.not_mem_nil, or_false] at hms
      rcases hms with rfl | rfl | rfl | rfl <;> simp
    have n2 := n1.nxt (by omega)
    refine (Pick_ok n2 (by omega) (by simp) (by simp)).bind fun sz _ => ?_
    have n3 := n2.nxt (by omega)
    rw [wrap64 (n := ((i + 2 : Nat) : Int) - 1) (by omega) (by omega)]
    refine (Range_ok n3 (by omega) (by omega) (by omega)).bind fun ⟨s4, lo⟩ ⟨p1, _⟩ => ?_
    simp only at p1
    simp only [whole_eq, Option.bind_some]
    refine (Pick_ok p1 (by omega) (by simp) (by simp)).bind fun hi' _ => ?_
    have n4 := p1.nxt (by omega)
    refine Ok.bind (P := fun r : List api_Range × api_Range => r.1.length ≤ 1) ?_ fun ⟨fr, rg⟩ hfr => ?_
    · unfold fleetmake_Stream_RightImages_x4
      refine Ok.bind (P := fun _ => True) ?_ fun b2 _ => ?_
      · unfold fleetmake_Stream_RightImages_x5
        refine (Flip_ok n4 (by omega) (by unfold I64; omega)).bind fun b3 _ => ?_
        exact .cond (fun _ => .some trivial) (fun _ => .some trivial)
      · refine .cond (fun _ => ?_) (fun _ => .some (by simp))
        rw [whole_eq, whole_eq]
        exact .some (by simp)
    simp only at hfr
    refine Ok.bind (P := fun r : List api_Range => r.length ≤ 2) ?_ fun fr2 hfr2 => ?_
    · unfold fleetmake_Stream_RightImages_x6
      refine Ok.bind (P := fun _ => True) ?_ fun b2 _ => ?_
      · unfold fleetmake_Stream_RightImages_x7
        refine .cond (fun _ => .some trivial) (fun hz => ?_)
        have hz : 0 < fr.length := by
          have hz : ¬ ((fr.length : Nat) : Int) = 0 := by simpa using hz
          omega
        refine (at_mem (l := fr) (n := 0) (by omega) (by omega)).bind fun y _ => ?_
        rw [ordV_eq]
        exact .some trivial
      · exact .cond (fun _ => .gd (ble_lim (by simp; omega)) (.some (by simp; omega))) (fun _ => .some (by simp only; omega))
    refine .gd (ble_lim (by simp; omega)) (.some ⟨(n4.nxt (by omega)).mono (by omega), ?_, by simp; omega⟩)
    intro x hx
    rcases List.mem_append.1 hx with hx | hx
    · exact f4 x hx
    · rw [List.mem_singleton.1 hx]
      exact ⟨hms.1, by simp only; omega, hms.2⟩
  · simp only at g1 g2 g3
    rw [wrap64 (n := ((i + 2 : Nat) : Int) + 1) (by omega) (by omega)]
    exact .some ⟨⟨i + 1, by simp only; omega, by omega, g1, g2, by simp only; omega⟩, by simp only; omega⟩
theorem Images_ok {k : Nat} {s : fleetmake_Stream} (h : StrOk k s) (hk : k + 2000 < 1099511627776) : Ok (fleetmake_Stream_Images s) (fun r => StrOk (k + 300) r.1 ∧ All I1 r.2 ∧ r.2.length ≤ 8) := by
  have im : ∀ {x : api_Image}, Im0 x → I1 x := fun {x} h => ⟨by have := h.1; omega, by have := h.2.1; omega, fun m hm => by have := h.2.2 m hm; omega⟩
  unfold fleetmake_Stream_Images
  refine (RightImages_ok h (by omega)).bind fun ⟨s1, l⟩ ⟨a1, a2, a3⟩ => ?_
  simp only at a1 a2 a3
  have a2' : All I1 l := fun x hx => im (a2 x hx)
  refine Ok.bind (P := fun r : fleetmake_Stream × List api_Image => StrOk (k + 300) r.1 ∧ All I1 r.2 ∧ r.2.length ≤ 8) ?_ fun ⟨s2, l2⟩ hr => .some hr
  unfold fleetmake_Stream_Images_x1
  refine Ok.bind (P := fun r : fleetmake_Stream × Bool => StrOk (k + 201) r.1 ∧ (r.2 = true → 0 < l.length)) ?_ fun ⟨s2, b⟩ ⟨b1, b2⟩ => ?_
  · unfold fleetmake_Stream_Images_x2
    refine .cond (fun hc => ?_) (fun _ => .some ⟨a1.mono (by omega), fun h => by cases h⟩)
    have hc : 0 < l.length := by simpa using hc
    exact (Flip_ok a1 (by omega) (by unfold I64; omega)).bind fun b _ => .some ⟨a1.nxt (by omega), fun _ => hc⟩
  simp only at b1 b2
  refine .cond (fun hb => ?_) (fun _ => .some ⟨b1.mono (by omega), a2', a3⟩)
  have hl := b2 hb
  refine (Next_ok b1 (by omega) (by unfold I64; omega)).bind fun n hn => ?_
  have hn := hn.1 (by omega)
  refine (at_mem hn.1 hn.2).bind fun x hx => ?_
  obtain ⟨x1, x2, x3⟩ := a2 x hx
  have n1 := b1.nxt (by omega)
  refine (Next_ok n1 (by omega) (by unfold I64; omega)).bind fun m _ => ?_
  have n2 := n1.nxt (by omega)
  refine .cond (fun _ => ?_) (fun _ => ?_)
  · refine (SVersion_ok n2 (by omega)).bind fun ⟨s3, v⟩ c1 => .some ⟨StrOk.mono c1 (by omega), a2'.set (im ⟨x1, x2, x3⟩), by simpa using a3⟩
  refine .cond (fun _ => ?_) (fun _ => ?_)
  · refine (Next_ok n2 (by omega) (by unfold I64; omega)).bind fun r hr => ?_
    have hr := hr.1 (by omega)
    refine (at_mem (l := [[], [[110], [109]], [[]], [[109], [109]]]) hr.1 (by simp; omega)).bind fun ms hms => ?_
    have hms : ms.length ≤ 10 ∧ ∀ m ∈ ms, m.length ≤ 10 := by
      simp only [List.mem_cons, List.not_mem_nil, or_false] at hms
      rcases hms with rfl | rfl | rfl | rfl <;> simp
    exact .some ⟨(n2.nxt (by omega)).mono (by omega), a2'.set (im ⟨hms.1, x2, hms.2⟩), by simpa using a3⟩
  refine .cond (fun _ => ?_) (fun _ => ?_)
  · unfold slices_Clone_api_Range_api_Range
    rw [gd_true (ble_lim (by simp; omega))]
    simp only [Option.bind_some]
    refine (SVersion_ok n2 (by omega)).bind fun ⟨s3, v⟩ c1 => ?_
    have c1 : StrOk _ s3 := c1
    refine (SVersion_ok c1 (by omega)).bind fun ⟨s4, v2⟩ c2 => ?_
    refine .gd (ble_lim (by simp; omega)) (.some ⟨StrOk.mono c2 (by omega), a2'.set ?_, by simpa using a3⟩)
    exact ⟨by simp only; omega, by simp; omega, fun m hm => by have := x3 m hm; omega⟩
  refine .cond (fun _ => ?_) (fun _ => ?_)
  · exact .some ⟨n2.mono (by omega), a2'.set (im ⟨x1, by simp, x3⟩), by simpa using a3⟩
  · refine (Odd_ok n2 (by omega) (by omega) (by omega) (by omega)).bind fun ⟨s3, v⟩ ⟨c1, _⟩ => ?_
    exact .some ⟨StrOk.mono c1 (by omega), a2'.set (im ⟨x1, x2, x3⟩), by simpa using a3⟩
/-! ### Reading -/
theorem numbers_eq {w : List (List UInt8)} (hb : ∀ x ∈ w, x.length ≤ 100000) (hl : w.length ≤ 100000) : base_Numbers_o0 w 4 = some (cond (w.all fun x => okN x 4) (w.map valN, true) ([], false)) := by
  unfold base_Numbers_o0
  have key : Ok (loopO (base_Numbers_o0_x1 w 4) ([], 0)) (fun r => r = cond (w.all fun x => okN x 4) (.inl (w.map valN)) (.inr ())) := by
    refine loop_ok (fun q : List Int × Int => ∃ i : Nat, q.2 = (i : Int) ∧ i ≤ w.length ∧ q.1 = (w.take i).map valN ∧ ∀ x ∈ w.take i, okN x 4 = true) (fun q => ((w.length : Int) - q.2).toNat) ?_ ⟨0, rfl, by omega, by simp, by simp⟩
    rintro ⟨o, q⟩ ⟨i, rfl, h1, h2, h3⟩
    simp only at h2
    unfold base_Numbers_o0_x1
    by_cases hi : i < w.length
    · have hi' : (i : Int) < w.length := by omega
      have hn := Number_p (s := w[i]) (most := 4) (by omega) (hb _ (List.getElem_mem hi))
      have hn : base_Number w[i] 4 = some (cond (okN w[i] 4) (valN w[i], true) (0, false)) := hn
      simp only [hi', decide_true, cond_true, at_nat hi, Option.bind_some, hn]
      cases hok : okN w[i] 4 with
      | false =>
        have : (w.all fun x => okN x 4) = false := by
          rw [List.all_eq_false]
          exact ⟨_, List.getElem_mem hi, by simp [hok]⟩
        rw [this]
        exact .some rfl
      | true =>
        simp only [cond_true, Bool.not_true, cond_false]
        rw [gd_true (ble_lim (by rw [h2]; simp; omega)), wrap64 (n := (i : Int) + 1) (by omega) (by omega)]
        refine .some ⟨⟨i + 1, by simp, hi, ?_, ?_⟩, by simp only; omega⟩
        · simp only
          rw [h2, List.take_succ_eq_append_getElem hi, List.map_append]
          rfl
        · intro x hx
          rw [List.take_succ_eq_append_getElem hi] at hx
          rcases List.mem_append.1 hx with hx | hx
          · exact h3 x hx
          · rw [List.mem_singleton.1 hx]; exact hok
    · have hi' : ¬ (i : Int) < w.length := by omega
      simp only [hi', decide_false, cond_false]
      have ht : w.take i = w := List.take_of_length_le (by omega)
      rw [ht] at h2 h3
      have : (w.all fun x => okN x 4) = true := List.all_eq_true.2 h3
      rw [this, h2]
      exact .some rfl
  obtain ⟨r, r1, rfl⟩ := key
  rw [r1]
  cases (w.all fun x => okN x 4) <;> rfl
theorem val_rng {x : List UInt8} (h : okN x 4 = true) : valN x ≤ 9999 ∧ -9999 ≤ valN x := by
  obtain ⟨_, h2, h3, _⟩ := okN_parts h
  have h4 := natV_lt h3
  have h5 : 10 ^ (trimM x).length ≤ 10 ^ 4 := Nat.pow_le_pow_right (by omega) h2
  unfold valN
  split <;> omega
theorem ref_step {w : List (List UInt8)} (hb : ∀ x ∈ w, x.length ≤ 100000) {n : List Int} (hn : n.length = 3) {i : Nat} (hi : i < w.length) (hi3 : i < 3) :
    fleetref2_VersionOf_x1 w (n, (i : Int)) = some (cond (okN w[i] 4 && decide (0 ≤ valN w[i])) (.inl (n.set i (valN w[i]), ((i + 1 : Nat) : Int))) (.inr (.inr ()))) := by
  obtain ⟨x, h1, h2⟩ := Number_r (s := w[i]) (most := 4) (by omega) (hb _ (List.getElem_mem hi))
  have h1 : fleetref2_Number w[i] 4 = some (x, okN w[i] 4) := h1
  unfold fleetref2_VersionOf_x1 fleetref2_VersionOf_x2
  have hi' : (i : Int) < w.length := by omega
  have hg : (decide (0 ≤ (i : Int)) && decide ((i : Int) < ((3 : Nat) : Int))) = true := by simp; omega
  simp only [hi', decide_true, cond_true, at_nat hi, Option.bind_some, h1, gd_true hg, at_nat (show i < n.length by omega)]
  cases hok : okN w[i] 4 with
  | false => rfl
  | true =>
    have e := h2 hok
    subst e
    have hs : at? (n.set (i : Int).toNat (valN w[i])) (i : Int) = some (valN w[i]) := by
      rw [at_nat (by simp; omega)]
      simp
    simp only [Bool.not_true, cond_false, hs, Option.bind_some, Bool.true_and]
    rw [wrap64 (n := (i : Int) + 1) (by omega) (by omega)]
    by_cases h0 : 0 ≤ valN w[i]
    · have : ¬ valN w[i] < 0 := by omega
      simp [h0, this]
    · have : valN w[i] < 0 := by omega
      simp [h0, this]
theorem parse_both {t : List UInt8} (ht : t.length ≤ 90000) : ∃ v e, campaign_ParseVersion t = some (v, e) ∧ fleetref2_VersionOf t = some (v, e) := by
  unfold campaign_ParseVersion fleetref2_VersionOf
  rw [split_eq (by omega)]
  have hb : ∀ x ∈ splitC 46 t, x.length ≤ 100000 := fun x hx => by have := splitC_bd 46 t x hx; omega
  have hl : (splitC 46 t).length ≤ 100000 := by rw [splitC_len]; have : t.count 46 ≤ t.length := List.count_le_length; omega
  generalize splitC 46 t = w at hb hl
  simp only [Option.bind_some, numbers_eq hb hl]
  by_cases h3 : w.length = 3
  · obtain ⟨a, b, c, rfl⟩ : ∃ a b c, w = [a, b, c] := by
      match w, h3 with
      | [a, b, c], _ => exact ⟨a, b, c, rfl⟩
    have hl3 : ((([a, b, c] : List (List UInt8)).length : Nat) : Int) = 3 := rfl
    have r0 := ref_step hb (n := [0, 0, 0]) rfl (i := 0) (by simp) (by omega)
    have r0 : fleetref2_VersionOf_x1 [a, b, c] ([0, 0, 0], 0) = some (cond (okN a 4 && decide (0 ≤ valN a)) (.inl ([valN a, 0, 0], 1)) (.inr (.inr ()))) := r0
    have r1 := ref_step hb (n := [valN a, 0, 0]) rfl (i := 1) (by simp) (by omega)
    have r1 : fleetref2_VersionOf_x1 [a, b, c] ([valN a, 0, 0], 1) = some (cond (okN b 4 && decide (0 ≤ valN b)) (.inl ([valN a, valN b, 0], 2)) (.inr (.inr ()))) := r1
    have r2 := ref_step hb (n := [valN a, valN b, 0]) rfl (i := 2) (by simp) (by omega)
    have r2 : fleetref2_VersionOf_x1 [a, b, c] ([valN a, valN b, 0], 2) = some (cond (okN c 4 && decide (0 ≤ valN c)) (.inl ([valN a, valN b, valN c], 3)) (.inr (.inr ()))) := r2
    have r3 : fleetref2_VersionOf_x1 [a, b, c] ([valN a, valN b, valN c], 3) = some (.inr (.inl [valN a, valN b, valN c])) := by
      unfold fleetref2_VersionOf_x1
      simp
    have fin : loopO (fleetref2_VersionOf_x1 [a, b, c]) ([0, 0, 0], 0) = some (cond ((okN a 4 && decide (0 ≤ valN a)) && ((okN b 4 && decide (0 ≤ valN b)) && (okN c 4 && decide (0 ≤ valN c)))) (.inl [valN a, valN b, valN c]) (.inr ())) := by
      cases ha : (okN a 4 && decide (0 ≤ valN a)) with
      | false => rw [ha] at r0; rw [loop_out r0]; rfl
      | true =>
        rw [ha] at r0
        rw [loop_in r0]
        cases hbb : (okN b 4 && decide (0 ≤ valN b)) with
        | false => rw [hbb] at r1; rw [loop_out r1]; rfl
        | true =>
          rw [hbb] at r1
          rw [loop_in r1]
          cases hcc : (okN c 4 && decide (0 ≤ valN c)) with
          | false => rw [hcc] at r2; rw [loop_out r2]; rfl
          | true =>
            rw [hcc] at r2
            rw [loop_in r2, loop_out r3]
            rfl
    simp only [hl3, decide_true, Bool.not_true, cond_false, fin, Option.bind_some]
    have hall : (([a, b, c] : List (List UInt8)).all fun x => okN x 4) = (okN a 4 && (okN b 4 && okN c 4)) := by simp
    rw [hall]
    cases ha : okN a 4 with
    | false => exact ⟨_, _, rfl, rfl⟩
    | true =>
    cases hbb : okN b 4 with
    | false => exact ⟨⟨0, 0, 0⟩, 9, rfl, by simp⟩
    | true =>
    cases hcc : okN c 4 with
    | false => exact ⟨⟨0, 0, 0⟩, 9, rfl, by simp⟩
    | true =>
      have va := val_rng ha
      have vb := val_rng hbb
      have vc := val_rng hcc
      simp only [Bool.true_and, cond_true, List.map_cons, List.map_nil]
      have hx1 : campaign_ParseVersion_x1 [valN a, valN b, valN c] true = some false := rfl
      have g0 : at? [valN a, valN b, valN c] 0 = some (valN a) := rfl
      have g1 : at? [valN a, valN b, valN c] 1 = some (valN b) := rfl
      have g2 : at? [valN a, valN b, valN c] 2 = some (valN c) := rfl
      have hv : verB (api_Version.mk (valN a) (valN b) (valN c)) = (decide (0 ≤ valN a) && (decide (0 ≤ valN b) && decide (0 ≤ valN c))) := by
        unfold verB
        have h1 : decide (valN a ≤ 9999) = true := decide_eq_true va.1
        have h2 : decide (valN b ≤ 9999) = true := decide_eq_true vb.1
        have h3 : decide (valN c ≤ 9999) = true := decide_eq_true vc.1
        simp only [h1, h2, h3, Bool.and_true]
      simp only [hx1, g0, g1, g2, Option.bind_some, Version_eq, hv, cond_false]
      cases (decide (0 ≤ valN a) && (decide (0 ≤ valN b) && decide (0 ≤ valN c))) with
      | false => exact ⟨_, _, rfl, rfl⟩
      | true => exact ⟨_, _, rfl, rfl⟩
  · have h3' : ¬ ((w.length : Nat) : Int) = 3 := by omega
    simp only [h3', decide_false, Bool.not_false, cond_true]
    cases (w.all fun x => okN x 4) with
    | false => exact ⟨_, _, rfl, rfl⟩
    | true =>
      have hm : campaign_ParseVersion_x1 (w.map valN) true = some true := by
        unfold campaign_ParseVersion_x1
        rw [List.length_map]
        simp [h3']
      simp only [cond_true, hm, Option.bind_some]
      exact ⟨_, _, rfl, rfl⟩
theorem versioned_eq : fleetlaw2_versioned = some true := by kernel_rfl
theorem VersionsRead_true (L : List Int) (hL : L.length ≤ 9223372036854775807) (hI : ∀ n ∈ L, -9223372036854775808 ≤ n ∧ n ≤ 9223372036854775807) : fleetlaw2_VersionsRead L = some true := by
  apply Ok.eq
  unfold fleetlaw2_VersionsRead
  have h0 : StrOk 0 (fleetmake_Stream.mk L 0) := ⟨Int.le_refl _, by simp, hL, hI⟩
  refine (SVersion_ok h0 (by omega)).bind fun ⟨s1, v⟩ a1 => ?_
  simp only at a1
  refine (SVersion_ok a1 (by omega)).bind fun ⟨s2, w⟩ b1 => ?_
  simp only at b1
  refine (VersionText_ok b1 (by omega)).bind fun ⟨s3, t⟩ ⟨c1, c2⟩ => ?_
  simp only at c1 c2
  refine (Images_ok c1 (by omega)).bind fun ⟨s4, l⟩ ⟨d1, d2, d3⟩ => ?_
  simp only at d1 d2 d3
  obtain ⟨pv, pe, p1, p2⟩ := parse_both (t := t) (by omega)
  have hvf : fleetref2_VersionFault v = some (cond (verB v) 0 1) := by
    unfold fleetref2_VersionFault
    rw [verFault_eq]; rfl
  have hx : ∃ x, campaign_VersionText v = some (x, cond (verB v) 0 1) ∧ fleetlaw2_VersionsRead_x1 v (cond (verB v) 0 1) = some x := by
    cases hv : verB v with
    | true =>
      obtain ⟨x, x1, _, x2⟩ := line_eq hv
      refine ⟨x, x2, ?_⟩
      unfold fleetlaw2_VersionsRead_x1
      simp only [cond_true, decide_true, x1, Option.bind_some]
    | false =>
      refine ⟨[], ?_, rfl⟩
      unfold campaign_VersionText campaign_versionFault
      rw [Version_eq, hv]
      rfl
  obtain ⟨x, x1, x2⟩ := hx
  have hx2 : fleetlaw2_VersionsRead_x2 v w l x (cond (verB v) 0 1) (cond (verB v) 0 1) x pv pe pv pe = some true := by
    unfold fleetlaw2_VersionsRead_x2
    simp only [decide_true, cond_true, Bool.and_self, cmpV_eq, ordV_eq, images_p d2 (show l.length ≤ 1000 by omega), images_r d2 (show l.length ≤ 1000 by omega), versioned_eq, Option.bind_some]
  simp only [x1, hvf, x2, p1, p2, hx2, Option.bind_some]
  exact .some rfl
end Go.Eng

