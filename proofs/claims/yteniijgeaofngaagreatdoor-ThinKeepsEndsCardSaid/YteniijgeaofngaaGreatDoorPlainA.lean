/-
What the plain functions of the law ThinKeepsEnds answer, part 1.
-/
import Derived.Test.YteniijgeaofngaaGreatDoorGenF
import Derived.KernelRfl
import Derived.Test.YteniijgeaofngaaGreatDoorEngV
/-
Plain functions: what they answer, in total. Loops by an invariant and a measure.
-/
namespace Go.Eng
open Go
set_option linter.unusedVariables false
set_option linter.unusedSimpArgs false

def Ok {α : Type} (x : Option α) (P : α → Prop) : Prop := ∃ r, x = some r ∧ P r
section
variable {α β σ ρ : Type} {P Q : α → Prop} {R : β → Prop}
theorem Ok.some {r : α} (h : P r) : Ok (some r) P := ⟨r, rfl, h⟩
theorem Ok.mono {x : Option α} (h : Ok x P) (hq : ∀ r, P r → Q r) : Ok x Q := let ⟨r, h1, h2⟩ := h; ⟨r, h1, hq r h2⟩
theorem Ok.bind {x : Option α} {f : α → Option β} (h : Ok x P) (hf : ∀ r, P r → Ok (f r) R) : Ok (x.bind f) R := by
  obtain ⟨r, rfl, hr⟩ := h
  exact hf r hr
theorem Ok.cond {b : Bool} {x y : Option α} (ht : b = true → Ok x P) (hf : b = false → Ok y P) : Ok (cond b x y) P := by
  cases b
  · exact hf rfl
  · exact ht rfl
theorem Ok.gd {b : Bool} {x : Option α} (hb : b = true) (h : Ok x P) : Ok (gd b x) P := by
  subst hb; exact h
theorem Ok.eq {x : Option α} {r : α} (h : Ok x fun y => y = r) : x = Option.some r := by
  obtain ⟨y, h1, h2⟩ := h
  rw [h1, h2]
theorem Ok.of_eq {x : Option α} {r : α} (h : x = Option.some r) (hp : P r) : Ok x P := ⟨r, h, hp⟩

theorem loop_ok {f : σ → Option (σ ⊕ ρ)} {Q : ρ → Prop} (I : σ → Prop) (μ : σ → Nat)
    (step : ∀ s, I s → Ok (f s) fun x => match x with | .inl s' => I s' ∧ μ s' < μ s | .inr r => Q r) {s : σ} (h : I s) : Ok (loopO f s) Q := by
  generalize hn : μ s = n
  induction n using Nat.strongRecOn generalizing s with
  | _ n ih =>
    obtain ⟨x, h1, h2⟩ := step s h
    cases x with
    | inl s' =>
      obtain ⟨h3, h4⟩ := h2
      obtain ⟨r, h5, h6⟩ := ih (μ s') (by omega) h3 rfl
      refine ⟨r, ?_, h6⟩
      rw [loopO_eq, h1]
      exact h5
    | inr r =>
      refine ⟨r, ?_, h2⟩
      rw [loopO_eq, h1]
      rfl

theorem at_lt {l : List α} {n : Int} (h : 0 ≤ n) (h2 : n < l.length) : at? l n = Option.some (l[n.toNat]'(by omega)) := by
  unfold at?
  rw [if_pos h, List.getElem?_eq_getElem]
theorem at_nat {l : List α} {n : Nat} (h : n < l.length) : at? l (n : Int) = Option.some l[n] := by
  rw [at_lt (by omega) (by omega)]
  simp
theorem at_ok {l : List α} {n : Int} (h : 0 ≤ n) (h2 : n < l.length) : Ok (at? l n) (fun y => l[n.toNat]? = Option.some y) := by
  refine ⟨_, at_lt h h2, ?_⟩
  rw [List.getElem?_eq_getElem]
theorem at_mem {l : List α} {n : Int} (h : 0 ≤ n) (h2 : n < l.length) : Ok (at? l n) (fun y => y ∈ l) := by
  refine (at_ok h h2).mono fun y hy => List.mem_of_getElem? hy
end

/-! ### Integers of 64 bits -/
def I64 (n : Int) : Prop := -9223372036854775808 ≤ n ∧ n ≤ 9223372036854775807
theorem wrap64 {n : Int} (h : -9223372036854775808 ≤ n) (h2 : n ≤ 9223372036854775807) : IntKind.wrap .i64 n = n := by
  unfold IntKind.wrap
  simp [IntKind.min, IntKind.max, IntKind.bits, IntKind.signed]
  omega
theorem tmod_nonneg {a b : Int} (h : 0 ≤ a) : 0 ≤ a.tmod b := Int.tmod_nonneg b h
theorem tmod_lt' {a b : Int} (h : 0 < b) : a.tmod b < b := Int.tmod_lt_of_pos a h
theorem lim_eq : LIM = 137438953472 := by decide
theorem ble_lim {n : Nat} (h : n ≤ 137438953472) : Nat.ble n LIM = true := by rw [Nat.ble_eq, lim_eq]; exact h
end Go.Eng

/-
The streams.
-/
namespace Go.Eng
open Go
set_option linter.unusedVariables false
set_option linter.unusedSimpArgs false

theorem wrap_I64 (n : Int) : I64 (IntKind.wrap .i64 n) := by
  unfold IntKind.wrap I64
  simp [IntKind.bits, IntKind.signed]
  split <;> omega

theorem Below_eq {x n : Int} (hx : I64 x) (hn : I64 n) : fleetmake_Below x n = some (if n < 1 then 0 else x % n) := by
  unfold I64 at hx hn
  unfold fleetmake_Below fleetmake_Below_x1
  by_cases h : n < 1
  · simp [h]
  · have h0 : (n == 0) = false := by simp; omega
    have e := Int.emod_eq_tmod (a := x) (b := n)
    have nn := Int.emod_nonneg x (show n ≠ 0 by omega)
    have lt := Int.emod_lt_of_pos x (show 0 < n by omega)
    simp only [h, decide_false, cond_false, h0, Bool.not_false, gd, cond_true, Option.bind_some, if_false]
    by_cases h3 : x.tmod n < 0
    · simp only [h3, decide_true, cond_true, Option.bind_some]
      split at e
      · omega
      · rw [wrap64 (by omega) (by omega)]
        congr 1
        omega
    · simp only [h3, decide_false, cond_false, Option.bind_some]
      congr 1
      split at e <;> omega
theorem Below_ok {x n : Int} (hx : I64 x) (hn : I64 n) : Ok (fleetmake_Below x n) (fun r => (1 ≤ n → 0 ≤ r ∧ r < n) ∧ (n < 1 → r = 0)) := by
  refine .of_eq (Below_eq hx hn) ⟨fun h => ?_, fun h => by simp [h]⟩
  rw [if_neg (by omega)]
  exact ⟨Int.emod_nonneg _ (by omega), Int.emod_lt_of_pos _ (by omega)⟩

/-- A stream whose numbers are of 64 bits, of which at most k were taken. -/
def StrOk (k : Nat) (s : fleetmake_Stream) : Prop := 0 ≤ s.at_ ∧ s.at_ ≤ k ∧ s.L.length ≤ 9223372036854775807 ∧ ∀ n ∈ s.L, I64 n
theorem StrOk.mono {k k' : Nat} {s : fleetmake_Stream} (h : StrOk k s) (hk : k ≤ k') : StrOk k' s := ⟨h.1, by have := h.2.1; omega, h.2.2⟩
/-- One number further. -/
abbrev nxt (s : fleetmake_Stream) : fleetmake_Stream := fleetmake_Stream.mk s.L (IntKind.wrap .i64 (s.at_ + 1))
theorem StrOk.nxt {k : Nat} {s : fleetmake_Stream} (h : StrOk k s) (hk : k < 1099511627776) : StrOk (k + 1) (nxt s) := by
  obtain ⟨h1, h2, h3, h4⟩ := h
  refine ⟨?_, ?_, h3, h4⟩
  · show 0 ≤ IntKind.wrap .i64 (s.at_ + 1)
    rw [wrap64 (by omega) (by omega)]; omega
  · show IntKind.wrap .i64 (s.at_ + 1) ≤ _
    rw [wrap64 (by omega) (by omega)]; omega

theorem Next_ok {k : Nat} {s : fleetmake_Stream} {n : Int} (h : StrOk k s) (hk : k < 1099511627776) (hn : I64 n) : Ok (fleetmake_Stream_Next s n) (fun r => (1 ≤ n → 0 ≤ r ∧ r < n) ∧ (n < 1 → r = 0)) := by
  obtain ⟨h1, h2, h3, h4⟩ := h
  unfold fleetmake_Stream_Next
  refine .cond (fun _ => ?_) (fun hl => ?_)
  · exact (Below_ok (wrap_I64 _) hn).bind fun r hr => .some hr
  · have hl' : s.L.length ≠ 0 := by simpa using hl
    have e1 : IntKind.wrap .i64 (s.at_ + 1) = s.at_ + 1 := wrap64 (by omega) (by omega)
    have e2 : IntKind.wrap .i64 (s.at_ + 1 - 1) = s.at_ := by rw [wrap64 (by omega) (by omega)]; omega
    refine .gd (by simpa using hl') ?_
    rw [e1, e2]
    refine (at_mem (tmod_nonneg h1) (tmod_lt' (by omega))).bind fun y hy => ?_
    refine (Below_ok (h4 y hy) (by unfold I64; omega)).bind fun r1 hr1 => ?_
    exact (Below_ok (wrap_I64 _) hn).bind fun r hr => .some hr

theorem Pick_ok {k : Nat} {s : fleetmake_Stream} {l : List Int} (h : StrOk k s) (hk : k < 1099511627776) (hl : 0 < l.length) (hl2 : l.length < 1000) : Ok (fleetmake_Stream_Pick_o1 s l) (fun r => r ∈ l) := by
  unfold fleetmake_Stream_Pick_o1
  refine (Next_ok h hk (by unfold I64; omega)).bind fun r hr => ?_
  have := hr.1 (by omega)
  exact (at_mem this.1 this.2).bind fun y hy => .some hy
theorem Range_ok {k : Nat} {s : fleetmake_Stream} {low high : Int} (h : StrOk k s) (hk : k < 1099511627776) (hlow : -4611686018427387903 < low ∧ low < 4611686018427387904) (hh : -4611686018427387904 < high ∧ high < 4611686018427387903) :
    Ok (fleetmake_Stream_Range s low high) (fun r => StrOk (k + 1) r.1 ∧ low ≤ r.2 ∧ (low ≤ high → r.2 ≤ high) ∧ (high < low → r.2 = low)) := by
  unfold fleetmake_Stream_Range
  refine .cond (fun hc => ?_) (fun hc => ?_)
  · have hc' : high < low := by simpa using hc
    exact .some ⟨h.mono (by omega), Int.le_refl _, by intro h; omega, fun _ => rfl⟩
  · have hc' : ¬ high < low := by simpa using hc
    have e1 : IntKind.wrap .i64 (high - low) = high - low := wrap64 (by omega) (by omega)
    have e2 : IntKind.wrap .i64 (high - low + 1) = high - low + 1 := wrap64 (by omega) (by omega)
    rw [e1, e2]
    refine (Next_ok h hk (by unfold I64; omega)).bind fun r hr => ?_
    have := hr.1 (by omega)
    refine .some ⟨h.nxt hk, ?_, fun _ => ?_, fun h => by omega⟩
    · show low ≤ IntKind.wrap .i64 (low + r)
      rw [wrap64 (by omega) (by omega)]; omega
    · show IntKind.wrap .i64 (low + r) ≤ high
      rw [wrap64 (by omega) (by omega)]; omega
end Go.Eng

/-
Loops over the elements of a list; keys.
-/
namespace Go.Eng
open Go
set_option linter.unusedVariables false
set_option linter.unusedSimpArgs false

/-- The first answer of the elements from number k on. -/
def scan {α ρ : Type} (g : Nat → α → Option ρ) : Nat → List α → Option ρ
  | _, [] => none
  | k, x :: xs => match g k x with
    | some r => some r
    | none => scan g (k + 1) xs

theorem drop_get {α : Type} {l : List α} {i : Nat} (h : i < l.length) : l.drop i = l[i] :: l.drop (i + 1) := List.drop_eq_getElem_cons h

/-- A loop over a list that ends at the first element with an answer. -/
theorem range_loop {α ρ : Type} {l : List α} {f : Int → Option (Int ⊕ ρ)} (g : Nat → α → Option ρ) (done : ρ) (hl : (l.length : Int) ≤ 9223372036854775807)
    (hf : ∀ (i : Nat) (h : i < l.length), f i = some (match g i l[i] with | none => .inl (IntKind.wrap .i64 (i + 1)) | some r => .inr r)) (hd : f l.length = some (.inr done)) :
    loopO f 0 = some ((scan g 0 l).getD done) := by
  have key : ∀ (n i : Nat), l.length - i = n → i ≤ l.length → loopO f i = some ((scan g i (l.drop i)).getD done) := by
    intro n
    induction n with
    | zero =>
      intro i h1 h2
      have : i = l.length := by omega
      subst this
      rw [loopO_eq, hd, List.drop_length]
      rfl
    | succ n ih =>
      intro i h1 h2
      have hi : i < l.length := by omega
      rw [loopO_eq, hf i hi, drop_get hi]
      simp only [scan]
      cases hg : g i l[i] with
      | some r => rfl
      | none =>
        simp only [Option.bind_some]
        rw [wrap64 (by omega) (by omega)]
        exact ih (i + 1) (by omega) (by omega)
  exact key l.length 0 (by omega) (by omega)

theorem scan_none {α ρ : Type} {g : Nat → α → Option ρ} : ∀ {l : List α} {k : Nat}, scan g k l = none ↔ ∀ (i : Nat) (x : α), l[i]? = some x → g (k + i) x = none
  | [], k => by simp [scan]
  | y :: l, k => by
    simp only [scan]
    cases hg : g k y with
    | some r =>
      simp only [reduceCtorEq, false_iff]
      intro h
      have := h 0 y rfl
      rw [Nat.add_zero, hg] at this
      cases this
    | none =>
      simp only
      rw [scan_none]
      constructor
      · intro h i x hi
        cases i with
        | zero => simp at hi; subst hi; exact hg
        | succ i => rw [show k + (i + 1) = k + 1 + i by omega]; exact h i x (by simpa using hi)
      · intro h i x hi
        rw [show k + 1 + i = k + (i + 1) by omega]
        exact h (i + 1) x (by simpa using hi)
theorem scan_congr {α ρ : Type} {g g' : Nat → α → Option ρ} : ∀ {l : List α} {k : Nat}, (∀ (i : Nat) (x : α), l[i]? = some x → g (k + i) x = g' (k + i) x) → scan g k l = scan g' k l
  | [], _, _ => rfl
  | y :: l, k, h => by
    simp only [scan]
    have h0 := h 0 y rfl
    rw [Nat.add_zero] at h0
    rw [h0]
    cases g' k y with
    | some r => rfl
    | none =>
      refine scan_congr (l := l) (k := k + 1) fun i x hi => ?_
      have := h (i + 1) x (by simpa using hi)
      rw [show k + (i + 1) = k + 1 + i by omega] at this
      exact this
theorem scan_all {α : Type} {p : α → Bool} {b : Bool} : ∀ {l : List α} {k : Nat}, (scan (fun _ x => cond (p x) none (some b)) k l).getD (!b) = cond (l.all p) (!b) b
  | [], _ => by simp [scan]
  | y :: l, k => by
    simp only [scan, List.all_cons]
    cases p y with
    | true => simp only [Bool.true_and, cond_true]; exact scan_all (l := l)
    | false => simp

/-! ### Keys -/
def keyC (c : UInt8) : Bool := (97 ≤ c.toNat && c.toNat ≤ 122) || (48 ≤ c.toNat && c.toNat ≤ 57) || c.toNat == 45 || c.toNat == 95
def keyB (s : List UInt8) : Bool := match s with
  | [] => false
  | c :: l => decide (l.length < 40) && (97 ≤ c.toNat && c.toNat ≤ 122) && (c :: l).all keyC

theorem u8_lt (c : UInt8) : c.toNat < 256 := c.toNat_lt

theorem u8_all {p : UInt8 → Bool} (h : ((List.range 256).all fun n => p (UInt8.ofNat n)) = true) (c : UInt8) : p c = true := by
  have := List.all_eq_true.1 h c.toNat (List.mem_range.2 (u8_lt c))
  simpa using this
theorem Key_x3 (c : UInt8) : base_Key_x3 c = some (!keyC c) := by
  have := u8_all (p := fun c => decide (base_Key_x3 c = some (!keyC c))) (by decide +kernel) c
  simpa using this
theorem Key_x2 (s : List UInt8) (hs : (s.length : Int) ≤ 9223372036854775807) : loopO (base_Key_x2 s) 0 = some (cond (s.all keyC) (.inl ()) (.inr ())) := by
  rw [range_loop (l := s) (fun _ c => cond (keyC c) none (some (.inr ()))) (.inl ()) hs]
  · congr 1
    generalize 0 = k
    induction s generalizing k with
    | nil => rfl
    | cons c s ih =>
      simp only [scan, List.all_cons]
      cases keyC c with
      | true => simp only [cond_true, Bool.true_and]; exact ih (by simp at hs; omega) (k + 1)
      | false => rfl
  · intro i hi
    unfold base_Key_x2
    rw [at_nat hi]
    have : ((i : Int) < s.length) := by omega
    simp only [this, decide_true, cond_true, Option.bind_some, Key_x3]
    cases keyC s[i] <;> rfl
  · unfold base_Key_x2
    simp
theorem Key_eq (s : List UInt8) (hs : (s.length : Int) ≤ 9223372036854775807) : base_Key s = some (keyB s) := by
  unfold base_Key base_Key_x1
  cases s with
  | nil => simp [keyB]
  | cons c l =>
    rw [Key_x2 _ hs]
    have h0 : at? (c :: l) 0 = some c := rfl
    simp only [reduceCtorEq, decide_false, cond_false, h0, Option.bind_some]
    unfold keyB
    have h40 : ((40 : Int) < ((c :: l).length : Int)) ↔ ¬ l.length < 40 := by simp; omega
    by_cases h1 : l.length < 40
    · have h1' : ¬ ((40 : Int) < ((c :: l).length : Int)) := by rw [h40]; simpa using h1
      simp only [h1', decide_false, cond_false, h1, decide_true, Bool.true_and]
      by_cases h2 : (c.toNat : Int) < 97
      · have : ¬ 97 ≤ c.toNat := by omega
        simp [h2, this]
      · by_cases h3 : (122 : Int) < c.toNat
        · have : ¬ c.toNat ≤ 122 := by omega
          simp [h2, h3, this]
        · have g1 : 97 ≤ c.toNat := by omega
          have g2 : c.toNat ≤ 122 := by omega
          simp only [h2, decide_false, cond_false, h3, Option.bind_some, g1, g2, decide_true, Bool.and_self, Bool.true_and]
          cases (c :: l).all keyC <;> rfl
    · have h1' : ((40 : Int) < ((c :: l).length : Int)) := by rw [h40]; exact h1
      simp only [h1', h1, decide_true, decide_false, cond_true, Option.bind_some, Bool.false_and]
end Go.Eng

/-
Small checks; the order of measurements.
-/
namespace Go.Eng
open Go
set_option linter.unusedVariables false
set_option linter.unusedSimpArgs false

theorem Out_eq (n low high : Int) : base_Out n low high = some (decide (n < low) || decide (high < n)) := by
  unfold base_Out base_Out_x1
  by_cases h : n < low <;> simp [h]
theorem Moment_eq (n : Int) : base_Moment n = some (decide (0 ≤ n) && decide (n ≤ 345686399999)) := by
  unfold base_Moment
  rw [Out_eq]
  simp only [Option.bind_some]
  congr 1
  rw [Bool.eq_iff_iff]
  simp
theorem indexByte_neg (l : List UInt8) (c : UInt8) : decide (Lib.indexByte l c < 0) = !l.contains c := by
  induction l with
  | nil => rfl
  | cons b l ih =>
    have hge := Lib.indexByte_ge l c
    unfold Lib.indexByte
    rw [List.contains_cons]
    by_cases hb : (b == c) = true
    · have : (c == b) = true := by rw [BEq.comm]; exact hb
      simp [hb, this]
    · have hb' : (b == c) = false := by simpa using hb
      have : (c == b) = false := by rw [BEq.comm]; exact hb'
      simp only [hb', Bool.false_eq_true, if_false, this, Bool.false_or]
      rw [← ih]
      by_cases h1 : Lib.indexByte l c = -1
      · simp [h1]
      · have : (Lib.indexByte l c == -1) = false := by simpa using h1
        simp only [this, Bool.false_eq_true, if_false]
        congr 1
        simp
        omega
theorem small_contains (c : UInt8) : ([97, 98, 99, 100, 101, 102, 103, 104, 105, 106, 107, 108, 109, 110, 111, 112, 113, 114, 115, 116, 117, 118, 119, 120, 121, 122] : List UInt8).contains c = (decide (97 ≤ c.toNat) && decide (c.toNat ≤ 122)) := by
  have := u8_all (p := fun c => ([97, 98, 99, 100, 101, 102, 103, 104, 105, 106, 107, 108, 109, 110, 111, 112, 113, 114, 115, 116, 117, 118, 119, 120, 121, 122] : List UInt8).contains c == (decide (97 ≤ c.toNat) && decide (c.toNat ≤ 122))) (by decide +kernel) c
  exact eq_of_beq this
theorem key_contains (c : UInt8) : ([97, 98, 99, 100, 101, 102, 103, 104, 105, 106, 107, 108, 109, 110, 111, 112, 113, 114, 115, 116, 117, 118, 119, 120, 121, 122, 48, 49, 50, 51, 52, 53, 54, 55, 56, 57, 45, 95] : List UInt8).contains c = keyC c := by
  have := u8_all (p := fun c => ([97, 98, 99, 100, 101, 102, 103, 104, 105, 106, 107, 108, 109, 110, 111, 112, 113, 114, 115, 116, 117, 118, 119, 120, 121, 122, 48, 49, 50, 51, 52, 53, 54, 55, 56, 57, 45, 95] : List UInt8).contains c == keyC c) (by decide +kernel) c
  exact eq_of_beq this

/-! ### Orders -/
def cmpI (a b : Int) : Int := if a < b then -1 else if b < a then 1 else 0
def or0 (a b : Int) : Int := if a = 0 then b else a
def sOrd (a b : api_Sample) : Int := or0 (Lib.compareBytes a.Device b.Device) (or0 (Lib.compareBytes a.Metric b.Metric) (cmpI a.At b.At))

theorem cmpB_self : ∀ a : List UInt8, Lib.compareBytes a a = 0
  | [] => rfl
  | x :: a => by
    unfold Lib.compareBytes
    simp [UInt8.lt_irrefl, cmpB_self a]
theorem cmpB_anti : ∀ a b : List UInt8, Lib.compareBytes b a = -Lib.compareBytes a b
  | [], [] => rfl
  | [], _ :: _ => rfl
  | _ :: _, [] => rfl
  | x :: a, y :: b => by
    unfold Lib.compareBytes
    by_cases h1 : x < y
    · have h2 : ¬ y < x := UInt8.lt_asymm h1
      simp [h1, h2]
    · by_cases h2 : y < x
      · simp [h1, h2]
      · simp [h1, h2, cmpB_anti a b]
theorem cmpB_zero : ∀ {a b : List UInt8}, Lib.compareBytes a b = 0 ↔ a = b
  | [], [] => by simp [Lib.compareBytes]
  | [], _ :: _ => by simp [Lib.compareBytes]
  | _ :: _, [] => by simp [Lib.compareBytes]
  | x :: a, y :: b => by
    unfold Lib.compareBytes
    by_cases h1 : x < y
    · have : x ≠ y := fun h => UInt8.lt_irrefl y (h ▸ h1)
      simp [h1, this]
    · by_cases h2 : y < x
      · have : x ≠ y := fun h => UInt8.lt_irrefl x (by rw [h] at h2 ⊢; exact h2)
        simp [h1, h2, this]
      · have : x = y := UInt8.le_antisymm (UInt8.not_lt.1 h2) (UInt8.not_lt.1 h1)
        simp [h1, h2, cmpB_zero (a := a) (b := b), this]
theorem cmpB_less : ∀ a b : List UInt8, Op.bytesLess a b = decide (Lib.compareBytes a b < 0)
  | [], [] => rfl
  | [], _ :: _ => rfl
  | _ :: _, [] => rfl
  | x :: a, y :: b => by
    unfold Lib.compareBytes
    rw [Op.bytesLess]
    by_cases h1 : x < y
    · simp [h1]
    · by_cases h2 : y < x
      · have h3 : ¬ x = y := fun h => UInt8.lt_irrefl x (by rw [h] at h2 ⊢; exact h2)
        simp [h1, h2, h3]
      · have h3 : x = y := UInt8.le_antisymm (UInt8.not_lt.1 h2) (UInt8.not_lt.1 h1)
        simp [h1, h2, h3, cmpB_less a b]
theorem cmpI_anti (a b : Int) : cmpI b a = -cmpI a b := by unfold cmpI; split <;> split <;> first | omega | (split <;> omega) | rfl
theorem or0_neg (a b : Int) : or0 (-a) (-b) = -or0 a b := by unfold or0; split <;> split <;> omega
theorem sOrd_anti (a b : api_Sample) : sOrd b a = -sOrd a b := by
  unfold sOrd
  rw [cmpB_anti a.Device b.Device, cmpB_anti a.Metric b.Metric, cmpI_anti a.At b.At, or0_neg, or0_neg]
end Go.Eng

/-
Checks of measurements and series, both ways.
-/
namespace Go.Eng
open Go
set_option linter.unusedVariables false
set_option linter.unusedSimpArgs false

theorem cmpB_range : ∀ a b : List UInt8, Lib.compareBytes a b = -1 ∨ Lib.compareBytes a b = 0 ∨ Lib.compareBytes a b = 1
  | [], [] => by simp [Lib.compareBytes]
  | [], _ :: _ => by simp [Lib.compareBytes]
  | _ :: _, [] => by simp [Lib.compareBytes]
  | x :: a, y :: b => by
    unfold Lib.compareBytes
    split
    · simp
    · split
      · simp
      · exact cmpB_range a b

theorem cmpInt_eq (a b : Int) : cmp_Compare_int a b = some (cmpI a b) := by
  unfold cmp_Compare_int cmp_isNaN_int cmpI
  by_cases h1 : a < b
  · simp [h1]
  · by_cases h2 : b < a <;> simp [h1, h2]
theorem Or_eq (l : List Int) (hl : (l.length : Int) ≤ 9223372036854775807) : cmp_Or_int l = some ((l.find? fun x => !decide (x = 0)).getD 0) := by
  unfold cmp_Or_int
  rw [range_loop (l := l) (fun _ x => cond (!decide (x = 0)) (some (.inr x)) none) (.inl ()) hl]
  · simp only [Option.bind_some]
    generalize 0 = k
    induction l generalizing k with
    | nil => rfl
    | cons c s ih =>
      simp only [scan, List.find?_cons]
      by_cases hc : c = 0
      · simp only [hc, decide_true, Bool.not_true, cond_false]
        exact ih (by simp at hl; omega) (k + 1)
      · simp [hc]
  · intro i hi
    unfold cmp_Or_int_x1
    rw [at_nat hi]
    have : ((i : Int) < l.length) := by omega
    simp only [this, decide_true, cond_true, Option.bind_some]
    cases (!decide (l[i] = 0)) <;> rfl
  · unfold cmp_Or_int_x1
    simp
theorem byDevice_eq (a b : api_Sample) : series_byDevice a b = some (sOrd a b) := by
  unfold series_byDevice strings_Compare bytealg_CompareString
  rw [cmpInt_eq]
  simp only [Option.bind_some]
  rw [Or_eq _ (by simp)]
  simp only [Option.bind_some]
  congr 1
  unfold sOrd or0
  by_cases h1 : Lib.compareBytes a.Device b.Device = 0 <;> by_cases h2 : Lib.compareBytes a.Metric b.Metric = 0 <;> by_cases h3 : cmpI a.At b.At = 0 <;> simp [List.find?_cons, h1, h2, h3]

/-! ### Check -/
/-- Measurements as streams make them: nothing so long or great that a computation runs over. -/
def SBnd (l : List api_Sample) : Prop := ∀ x ∈ l, (x.Device.length : Int) ≤ 1000 ∧ (x.Metric.length : Int) ≤ 1000 ∧ (-2199023255552 ≤ x.At ∧ x.At ≤ 2199023255552) ∧ (-2199023255552 ≤ x.Value ∧ x.Value ≤ 2199023255552)

def smpB (x : api_Sample) : Option Int :=
  if !(keyB x.Device && keyB x.Metric) then some 5 else if !((decide (0 ≤ x.At) && decide (x.At ≤ 345686399999)) && (decide (-1000000000 ≤ x.Value) && decide (x.Value ≤ 1000000000))) then some 1 else none
/-- What is wrong with the measurement of number i. -/
def chkG (l : List api_Sample) (i : Nat) (x : api_Sample) : Option Int :=
  match smpB x with
  | some e => some e
  | none => match i with
    | 0 => none
    | j + 1 => match l[j]? with
      | some y => if sOrd x y ≤ 0 then some 7 else none
      | none => none
def checkV (l : List api_Sample) : Int := if 5000 < l.length then 2 else (scan (chkG l) 0 l).getD 0

theorem Check_eq {l : List api_Sample} (hb : SBnd l) (hl : (l.length : Int) ≤ 9223372036854775807) : series_Check l = some (checkV l) := by
  unfold series_Check checkV
  by_cases h5 : 5000 < l.length
  · have : (5000 : Int) < l.length := by omega
    simp [this, h5]
  have h5' : ¬ (5000 : Int) < l.length := by omega
  simp only [h5', decide_false, cond_false, h5, if_false]
  rw [range_loop (l := l) (fun i x => (chkG l i x).map .inr) (.inl ()) hl]
  · simp only [Option.bind_some]
    generalize chkG l = g
    generalize 0 = k
    clear hb hl h5 h5'
    induction l generalizing k with
    | nil => rfl
    | cons c s ih =>
      simp only [scan]
      cases g k c with
      | none => exact ih (k + 1)
      | some r => rfl
  · intro i hi
    obtain ⟨b1, b2, b3, b4⟩ := hb l[i] (List.getElem_mem hi)
    unfold series_Check_x1
    rw [at_nat hi]
    have h0 : ((i : Int) < l.length) := by omega
    simp only [h0, decide_true, cond_true, Option.bind_some]
    unfold series_Check_x2 series_Check_x3 chkG smpB
    rw [Key_eq _ (by omega), Key_eq _ (by omega), Moment_eq, Out_eq]
    simp only [Option.bind_some]
    cases hk1 : keyB l[i].Device
    · simp
    cases hk2 : keyB l[i].Metric
    · simp
    simp only [Bool.not_true, cond_false, Option.bind_some, Bool.and_self, Bool.false_eq_true, if_false]
    by_cases hm : 0 ≤ l[i].At ∧ l[i].At ≤ 345686399999
    · by_cases hv : -1000000000 ≤ l[i].Value ∧ l[i].Value ≤ 1000000000
      · have v1 : ¬ l[i].Value < -1000000000 := by omega
        have v2 : ¬ (1000000000 : Int) < l[i].Value := by omega
        simp only [hm.1, hm.2, hv.1, hv.2, v1, v2, decide_true, decide_false, Bool.and_self, Bool.not_true, cond_false, Option.bind_some, Bool.or_self, Bool.false_eq_true, if_false]
        unfold series_Check_x4
        cases i with
        | zero => simp
        | succ j =>
          have e1 : IntKind.wrap .i64 (((j + 1 : Nat) : Int) - 1) = (j : Int) := by rw [wrap64 (by omega) (by omega)]; omega
          have hj : j < l.length := by omega
          have hp : (0 : Int) < ((j + 1 : Nat) : Int) := by omega
          simp only [hp, decide_true, cond_true, e1, at_nat hj, Option.bind_some, byDevice_eq, List.getElem?_eq_getElem hj]
          by_cases hc : sOrd l[j + 1] l[j] ≤ 0 <;> simp [hc]
      · have : (decide (-1000000000 ≤ l[i].Value) && decide (l[i].Value ≤ 1000000000)) = false := by simpa using hv
        have v : (decide (l[i].Value < -1000000000) || decide ((1000000000 : Int) < l[i].Value)) = true := by simp; omega
        simp [hm.1, hm.2, this, v]
    · have : (decide (0 ≤ l[i].At) && decide (l[i].At ≤ 345686399999)) = false := by simpa using hm
      simp [this]
  · unfold series_Check_x1
    simp

end Go.Eng

/-
Series and windows; faults.
-/
namespace Go.Eng
open Go
set_option linter.unusedVariables false
set_option linter.unusedSimpArgs false

def diffB (x y : api_Sample) : Bool := !decide (x.Device = y.Device) || !decide (x.Metric = y.Metric)
def anyDiff : List api_Sample → Bool
  | [] => false
  | y :: l => (y :: l).any fun x => diffB x y
def seriesV (l : List api_Sample) : Int := if checkV l ≠ 0 then checkV l else cond (anyDiff l) 13 0

theorem clo1_eq (s y : api_Sample) (l : List api_Sample) : series_CheckSeries_1 s (y :: l) = some (diffB s y) := by
  unfold series_CheckSeries_1 series_CheckSeries_1_x1 diffB
  have h0 : at? (y :: l) 0 = some y := rfl
  simp only [h0, Option.bind_some]
  by_cases h : s.Device = y.Device <;> simp [h]
theorem scan_find {α : Type} {p : α → Bool} : ∀ {l : List α} {k : Nat}, ∃ r : Int, (match (scan (fun i x => cond (p x) (some (Sum.inr (i : Int) : Unit ⊕ Int)) none) k l).getD (.inl ()) with | .inl _ => (-1 : Int) | .inr v => v) = r ∧ decide (0 ≤ r) = l.any p
  | [], k => ⟨-1, rfl, rfl⟩
  | x :: l, k => by
    simp only [scan, List.any_cons]
    cases p x with
    | true => exact ⟨k, rfl, by simp⟩
    | false => simp only [cond_false, Bool.false_or]; exact scan_find (l := l) (k := k + 1)

theorem has1_eq (l : List api_Sample) (hl : (l.length : Int) ≤ 9223372036854775807) : slices_ContainsFunc_api_Sample_api_Sample_f1_series_CheckSeries_1 l = some (anyDiff l) := by
  unfold slices_ContainsFunc_api_Sample_api_Sample_f1_series_CheckSeries_1 slices_IndexFunc_api_Sample_api_Sample_f1_series_CheckSeries_1
  cases l with
  | nil =>
    rw [range_loop (l := ([] : List api_Sample)) (fun i x => none) (.inl ()) (by simp)]
    · rfl
    · intro i hi; simp at hi
    · unfold slices_IndexFunc_api_Sample_api_Sample_f1_series_CheckSeries_1_x1; simp
  | cons y l =>
    rw [range_loop (l := y :: l) (fun i x => cond (diffB x y) (some (.inr (i : Int))) none) (.inl ()) hl]
    · obtain ⟨r, h1, h2⟩ := scan_find (p := fun x => diffB x y) (l := y :: l) (k := 0)
      simp only [Option.bind_some, anyDiff]
      rw [← h2, ← h1]
      cases (scan (fun i x => cond (diffB x y) (some (Sum.inr (i : Int) : Unit ⊕ Int)) none) 0 (y :: l)).getD (.inl ()) <;> rfl
    · intro i hi
      unfold slices_IndexFunc_api_Sample_api_Sample_f1_series_CheckSeries_1_x1
      rw [at_nat hi]
      have : ((i : Int) < (y :: l).length) := by omega
      simp only [this, decide_true, cond_true, Option.bind_some, clo1_eq]
      cases diffB (y :: l)[i] y <;> rfl
    · unfold slices_IndexFunc_api_Sample_api_Sample_f1_series_CheckSeries_1_x1
      simp
theorem CheckSeries_eq {l : List api_Sample} (hb : SBnd l) (hl : (l.length : Int) ≤ 9223372036854775807) : series_CheckSeries l = some (seriesV l) := by
  unfold series_CheckSeries seriesV
  rw [Check_eq hb hl, has1_eq l hl]
  simp only [Option.bind_some]
  by_cases h : checkV l = 0
  · simp only [h, decide_true, Bool.not_true, cond_false, ne_eq, not_true_eq_false, if_false]
    cases anyDiff l <;> rfl
  · simp [h]
def windowB (w : api_Window) : Bool := (decide (0 ≤ w.From) && decide (w.From ≤ w.To)) && decide (w.To ≤ 345686400000)
theorem Window_eq (w : api_Window) : base_Window w = some (windowB w) := by
  unfold base_Window base_Window_x1 windowB
  rw [Out_eq]
  have e : (decide (w.From < 0) || decide (w.To < w.From)) = !(decide (0 ≤ w.From) && decide (w.From ≤ w.To)) := by rw [Bool.eq_iff_iff]; simp
  rw [e]
  simp only [Option.bind_some]
  cases (decide (0 ≤ w.From) && decide (w.From ≤ w.To)) <;> rfl
theorem fault_eq {l : List api_Sample} (w : api_Window) (hb : SBnd l) (hl : (l.length : Int) ≤ 9223372036854775807) : series_fault l w = some (or0 (seriesV l) (cond (windowB w) 0 1)) := by
  unfold series_fault series_fault_x1 series_fault_x2
  rw [CheckSeries_eq hb hl, Window_eq]
  simp only [Option.bind_some]
  unfold or0
  by_cases h : seriesV l = 0
  · simp only [h, decide_true, cond_true, Option.bind_some, if_true]
    cases windowB w <;> rfl
  · simp [h]
end Go.Eng

/-
Fill and FillOf answer the same for a right series.
-/
namespace Go.Eng
open Go
set_option linter.unusedVariables false
set_option linter.unusedSimpArgs false

theorem scan_some {α ρ : Type} {g : Nat → α → Option ρ} : ∀ {l : List α} {k : Nat} {r : ρ}, scan g k l = some r → ∃ i x, l[i]? = some x ∧ g (k + i) x = some r
  | [], _, _, h => by cases h
  | y :: l, k, r, h => by
    simp only [scan] at h
    cases hg : g k y with
    | some r' => rw [hg] at h; cases h; exact ⟨0, y, rfl, by rw [Nat.add_zero]; exact hg⟩
    | none =>
      rw [hg] at h
      obtain ⟨i, x, h1, h2⟩ := scan_some h
      exact ⟨i + 1, x, by simpa using h1, by rw [← h2]; congr 1; omega⟩

theorem smpB_none {x : api_Sample} (h : smpB x = none) : (0 ≤ x.At ∧ x.At ≤ 345686399999) ∧ (-1000000000 ≤ x.Value ∧ x.Value ≤ 1000000000) := by
  unfold smpB at h
  split at h
  · cases h
  · split at h
    · cases h
    · rename_i h2
      simp at h2
      omega
theorem chkG_ne {l : List api_Sample} {i : Nat} {x : api_Sample} : chkG l i x ≠ some 0 := by
  unfold chkG smpB
  split
  · rename_i e he
    split at he
    · cases he; simp
    · split at he
      · cases he; simp
      · cases he
  · split
    · simp
    · split
      · split <;> simp
      · simp

theorem check_zero {l : List api_Sample} (h : checkV l = 0) : l.length ≤ 5000 ∧ ∀ (i : Nat) (x : api_Sample), l[i]? = some x → chkG l i x = none := by
  unfold checkV at h
  split at h
  · cases h
  · rename_i h5
    refine ⟨by omega, ?_⟩
    cases hs : scan (chkG l) 0 l with
    | some r =>
      rw [hs] at h
      have h' : r = 0 := h
      subst h'
      obtain ⟨i, x, _, h2⟩ := scan_some hs
      exact absurd h2 chkG_ne
    | none =>
      have := scan_none.1 hs
      simpa using this

/-- A right series: its moments rise. -/
structure Right (l : List api_Sample) : Prop where
  len : l.length ≤ 5000
  bnd : ∀ (i : Nat) (h : i < l.length), (0 ≤ l[i].At ∧ l[i].At ≤ 345686399999) ∧ (-1000000000 ≤ l[i].Value ∧ l[i].Value ≤ 1000000000)
  next : ∀ (i : Nat) (h : i + 1 < l.length), l[i].At < l[i + 1].At

theorem right_of {l : List api_Sample} (h : seriesV l = 0) : Right l := by
  have hc : checkV l = 0 := by
    unfold seriesV at h
    split at h
    · exact h
    · rename_i h1; simpa using h1
  have hd : anyDiff l = false := by
    unfold seriesV at h
    rw [if_neg (by simp [hc])] at h
    cases ha : anyDiff l with
    | false => rfl
    | true => rw [ha] at h; cases h
  obtain ⟨h1, h2⟩ := check_zero hc
  have hs : ∀ (i : Nat) (h : i < l.length), smpB l[i] = none := fun i hi => by
    have := h2 i _ (List.getElem?_eq_getElem hi)
    unfold chkG at this
    split at this
    · cases this
    · assumption
  have same : ∀ x ∈ l, ∀ y ∈ l, x.Device = y.Device ∧ x.Metric = y.Metric := by
    cases l with
    | nil => intro x hx; cases hx
    | cons y l =>
      unfold anyDiff at hd
      rw [List.any_eq_false] at hd
      have h0 : ∀ x ∈ y :: l, x.Device = y.Device ∧ x.Metric = y.Metric := fun x hx => by
        have := hd x hx
        simpa [diffB] using this
      intro x hx z hz
      exact ⟨(h0 x hx).1.trans (h0 z hz).1.symm, (h0 x hx).2.trans (h0 z hz).2.symm⟩
  refine ⟨h1, fun i hi => smpB_none (hs i hi), fun i hi => ?_⟩
  have h3 := h2 (i + 1) _ (List.getElem?_eq_getElem hi)
  unfold chkG at h3
  rw [hs (i + 1) hi] at h3
  simp only at h3
  rw [List.getElem?_eq_getElem (by omega : i < l.length)] at h3
  simp only at h3
  split at h3
  · cases h3
  · rename_i h4
    obtain ⟨g1, g2⟩ := same l[i + 1] (List.getElem_mem hi) l[i] (List.getElem_mem (by omega))
    unfold sOrd or0 at h4
    rw [g1, g2, cmpB_self, cmpB_self] at h4
    simp only [if_true] at h4
    unfold cmpI at h4
    split at h4
    · omega
    · split at h4 <;> omega

theorem Right.mono {l : List api_Sample} (h : Right l) : ∀ (i j : Nat) (hij : i < j) (hj : j < l.length), l[i].At < l[j].At := by
  intro i j hij
  induction j with
  | zero => omega
  | succ j ih =>
    intro hj
    have h1 := h.next j hj
    by_cases he : i = j
    · subst he; exact h1
    · have := ih (by omega) (by omega)
      omega

/-! ### The place of a moment -/
/-- k is the last place whose moment is not behind 'at'; -1: none. -/
def Place (l : List api_Sample) (t k : Int) : Prop := -1 ≤ k ∧ k < l.length ∧ (∀ (j : Nat) (h : j < l.length), (j : Int) ≤ k → l[j].At ≤ t) ∧ ∀ (j : Nat) (h : j < l.length), k < (j : Int) → t < l[j].At

/-- The first place whose moment is not ahead of 'at'. -/
def afterOf (l : List api_Sample) (t k : Int) : Int := if h : 0 ≤ k ∧ k < l.length then (if (l[k.toNat]'(by omega)).At = t then k else if k + 1 < l.length then k + 1 else -1) else if k + 1 < l.length then k + 1 else -1

end Go.Eng

/-
Fill and FillOf, whole.
-/
namespace Go.Eng
open Go
set_option linter.unusedVariables false
set_option linter.unusedSimpArgs false

/-- Two loops side by side. -/
theorem loop_sim {σ τ ρ ρ' : Type} {f : σ → Option (σ ⊕ ρ)} {g : τ → Option (τ ⊕ ρ')} (R : σ → τ → Prop) (μ : σ → Nat) (E : ρ → ρ' → Prop)
    (step : ∀ s t, R s t → (∃ s' t', f s = some (.inl s') ∧ g t = some (.inl t') ∧ R s' t' ∧ μ s' < μ s) ∨ (∃ r r', f s = some (.inr r) ∧ g t = some (.inr r') ∧ E r r')) {s : σ} {t : τ} (h : R s t) :
    ∃ r r', loopO f s = some r ∧ loopO g t = some r' ∧ E r r' := by
  generalize hn : μ s = n
  induction n using Nat.strongRecOn generalizing s t with
  | _ n ih =>
    rcases step s t h with ⟨s', t', h1, h2, h3, h4⟩ | ⟨r, r', h1, h2, h3⟩
    · obtain ⟨r, r', g1, g2, g3⟩ := ih (μ s') (by omega) h3 rfl
      refine ⟨r, r', ?_, ?_, g3⟩
      · rw [loopO_eq, h1]; exact g1
      · rw [loopO_eq, h2]; exact g2
    · refine ⟨r, r', ?_, ?_, h3⟩
      · rw [loopO_eq, h1]; rfl
      · rw [loopO_eq, h2]; rfl

end Go.Eng

/-
What streams make: series and windows.
-/
namespace Go.Eng
open Go
set_option linter.unusedVariables false
set_option linter.unusedSimpArgs false

def S1 (x : api_Sample) : Prop := (x.Device.length : Int) ≤ 1000 ∧ (x.Metric.length : Int) ≤ 1000 ∧ (-2199023255552 ≤ x.At ∧ x.At ≤ 2199023255552) ∧ (-2199023255552 ≤ x.Value ∧ x.Value ≤ 2199023255552)
theorem SBnd.set {l : List api_Sample} (h : SBnd l) {i : Nat} {x : api_Sample} (hx : S1 x) : SBnd (l.set i x) := by
  intro y hy
  rcases List.mem_or_eq_of_mem_set hy with hy | rfl
  · exact h y hy
  · exact hx
theorem SBnd.snoc {l : List api_Sample} (h : SBnd l) {x : api_Sample} (hx : S1 x) : SBnd (l ++ [x]) := by
  intro y hy
  rcases List.mem_append.1 hy with hy | hy
  · exact h y hy
  · rw [List.mem_singleton.1 hy]; exact hx
theorem SBnd.at {l : List api_Sample} (h : SBnd l) {i : Nat} {x : api_Sample} (hx : l[i]? = some x) : S1 x := h x (List.mem_of_getElem? hx)

/-- A stream behind n more numbers, and what was made of them. -/
theorem RightSeries_ok {k : Nat} {s : fleetmake_Stream} {most low : Int} (h : StrOk k s) (hk : k + 300 < 1099511627776) (hm : 0 ≤ most ∧ most ≤ 100) (hlow : -1000000000 ≤ low ∧ low ≤ 1000000000) :
    Ok (fleetmake_Stream_RightSeries s most low) (fun r => StrOk (k + 300) r.1 ∧ SBnd r.2 ∧ (r.2.length : Int) ≤ most) := by
  unfold fleetmake_Stream_RightSeries
  refine (Range_ok h (by omega) (by omega) (by omega)).bind fun ⟨s1, n⟩ ⟨g1, g2, g3, _⟩ => ?_
  have g3 := g3 (by omega)
  simp only at g1 g2 g3
  refine Ok.bind (P := fun r => StrOk (k + 300) r.1 ∧ SBnd r.2 ∧ (r.2.length : Int) ≤ most) ?_ fun ⟨s2, out⟩ h2 => .some h2
  refine loop_ok (fun q : fleetmake_Stream × List api_Sample × Int × Int => ∃ i : Nat, q.2.2.2 = i ∧ i ≤ n ∧ StrOk (k + 1 + 2 * i) q.1 ∧ q.2.1.length = i ∧ (0 ≤ q.2.2.1 ∧ q.2.2.1 ≤ 1000 * i) ∧ SBnd q.2.1) (fun q => (n - q.2.2.2).toNat) ?_ ?_
  · rintro ⟨s2, out, a, i0⟩ ⟨i, e1, e2, e3, e4, e5, e6⟩
    simp only at e1 e3 e4 e5 e6
    subst e1
    unfold fleetmake_Stream_RightSeries_x1
    refine .cond (fun hc => ?_) (fun hc => ?_)
    · have hc' : (i : Int) < n := by simpa using hc
      refine (Pick_ok e3 (by omega) (by simp) (by simp)).bind fun d hd => ?_
      refine (Pick_ok (e3.nxt (by omega)) (by omega) (by simp) (by simp)).bind fun v hv => ?_
      have hd' : 1 ≤ d ∧ d ≤ 1000 := by simp at hd; omega
      have hv' : -70 ≤ v ∧ v ≤ 1000 := by simp at hv; omega
      rw [wrap64 (n := a + d) (by omega) (by omega), wrap64 (n := (i : Int) + 1) (by omega) (by omega)]
      refine .gd (ble_lim (by simp; omega)) (.some ⟨⟨i + 1, by simp, by omega, ?_, by simp [e4], ?_, ?_⟩, ?_⟩)
      · exact ((e3.nxt (by omega)).nxt (by omega)).mono (by omega)
      · simp only; omega
      · refine e6.snoc ⟨by simp, by simp, by simp only; omega, ?_⟩
        simp only
        unfold imax
        split <;> omega
      · simp only; omega
    · have hc' : ¬ (i : Int) < n := by simpa using hc
      exact .some ⟨e3.mono (by omega), e6, by simp only; omega⟩
  · exact ⟨0, rfl, by omega, g1.mono (by omega), rfl, by simp, fun x hx => by cases hx⟩

def WBnd (w : api_Window) : Prop := (-2199023255552 ≤ w.From ∧ w.From ≤ 2199023255552) ∧ (-2199023255552 ≤ w.To ∧ w.To ≤ 2199023255552)
end Go.Eng

/-
The measured constant.
-/
namespace Go.Eng
open Go
set_option linter.unusedVariables false
set_option linter.unusedSimpArgs false

theorem eqself_loop {f : Int → Option (Int ⊕ (Unit ⊕ Unit))} {n : Nat} (hl : (n : Int) ≤ 9223372036854775807) (hf : ∀ (i : Nat), i < n → f i = some (.inl (IntKind.wrap .i64 (i + 1)))) (hd : f n = some (.inr (.inl ()))) : loopO f 0 = some (.inl ()) := by
  rw [range_loop (l := List.replicate n ()) (fun _ _ => none) (.inl ()) (by simpa using hl)]
  · rw [scan_none.2 fun _ _ _ => rfl]; rfl
  · intro i hi
    exact hf i (by simpa using hi)
  · simpa using hd

theorem EqualI_self {l : List Int} (hl : (l.length : Int) ≤ 9223372036854775807) : slices_Equal_byte_byte l l = some true := by
  unfold slices_Equal_byte_byte
  simp only [decide_true, Bool.not_true, cond_false]
  rw [range_loop (l := l) (fun _ _ => none) (.inl ()) hl]
  · simp only [Option.bind_some]
    have : scan (fun (_ : Nat) (_ : Int) => (none : Option (Unit ⊕ Unit))) 0 l = none := scan_none.2 fun _ _ _ => rfl
    rw [this]
    rfl
  · intro i hi
    unfold slices_Equal_byte_byte_x1
    have : ((i : Int) < l.length) := by omega
    simp only [this, decide_true, cond_true, at_nat hi, Option.bind_some, Bool.not_true, cond_false]
  · unfold slices_Equal_byte_byte_x1
    simp

theorem seven_o_small {b : List Int} {n : Int} (h : n < 128) (hb : b.length ≤ 100000) : series_seven_o0 b n = some (b ++ [IntKind.wrap .u8 n]) := by
  unfold series_seven_o0
  rw [loopO_eq]
  have h' : ¬ 128 ≤ n := by omega
  have e : series_seven_o0_x1 (b, n) = some (.inr (b, n)) := by
    unfold series_seven_o0_x1
    simp [h']
  rw [e]
  simp only [Option.bind_some]
  rw [gd_true (ble_lim (by simp; omega))]
theorem seven_n_small {n : Int} (h : n < 128) : series_seven_n0 n = some [IntKind.wrap .u8 n] := by
  unfold series_seven_n0
  rw [loopO_eq]
  have h' : ¬ 128 ≤ n := by omega
  have e : series_seven_n0_x1 ([], n) = some (.inr ([], n)) := by
    unfold series_seven_n0_x1
    simp [h']
  rw [e]
  simp only [Option.bind_some]
  rw [gd_true (ble_lim (by simp))]
  rfl
end Go.Eng

/-
The law CountersRead.
-/
namespace Go.Eng
open Go
set_option linter.unusedVariables false
set_option linter.unusedSimpArgs false

/-- A search for the first element that a test lets in. -/
theorem idx_loop {α : Type} {l : List α} {f : Int → Option (Int ⊕ (Unit ⊕ Int))} (p : α → Bool) (hl : (l.length : Int) ≤ 9223372036854775807)
    (hf : ∀ (i : Nat) (h : i < l.length), f i = some (cond (p l[i]) (.inr (.inr (i : Int))) (.inl (IntKind.wrap .i64 (i + 1))))) (hd : f l.length = some (.inr (.inl ()))) :
    (∃ v : Nat, loopO f 0 = some (.inr (v : Int)) ∧ l.any p = true) ∨ (loopO f 0 = some (.inl ()) ∧ l.any p = false) := by
  rw [range_loop (l := l) (fun i x => cond (p x) (some (.inr (i : Int))) none) (.inl ()) hl]
  · have key : ∀ (l : List α) (k : Nat), (∃ v : Nat, scan (fun i x => cond (p x) (some (Sum.inr (i : Int) : Unit ⊕ Int)) none) k l = some (.inr (v : Int)) ∧ l.any p = true) ∨ (scan (fun i x => cond (p x) (some (Sum.inr (i : Int) : Unit ⊕ Int)) none) k l = none ∧ l.any p = false) := by
      intro l
      induction l with
      | nil => intro k; exact .inr ⟨rfl, rfl⟩
      | cons x l ih =>
        intro k
        simp only [scan, List.any_cons]
        cases p x with
        | true => exact .inl ⟨k, rfl, rfl⟩
        | false => simpa using ih (k + 1)
    rcases key l 0 with ⟨v, h1, h2⟩ | ⟨h1, h2⟩
    · exact .inl ⟨v, by rw [h1]; rfl, h2⟩
    · exact .inr ⟨by rw [h1]; rfl, h2⟩
  · intro i hi
    rw [hf i hi]
    cases p l[i] <;> rfl
  · exact hd

def negB (l : List api_Sample) : Bool := l.any fun x => decide (x.Value < 0)
theorem neg1_eq (l : List api_Sample) (hl : (l.length : Int) ≤ 9223372036854775807) : slices_ContainsFunc_api_Sample_api_Sample_f1_series_rises_1 l = some (negB l) := by
  unfold slices_ContainsFunc_api_Sample_api_Sample_f1_series_rises_1 slices_IndexFunc_api_Sample_api_Sample_f1_series_rises_1
  have H := idx_loop (f := slices_IndexFunc_api_Sample_api_Sample_f1_series_rises_1_x1 l) (fun x : api_Sample => decide (x.Value < 0)) hl (fun i hi => by
    unfold slices_IndexFunc_api_Sample_api_Sample_f1_series_rises_1_x1 series_rises_1
    have : ((i : Int) < l.length) := by omega
    simp only [this, decide_true, cond_true, at_nat hi, Option.bind_some]
    cases decide (l[i].Value < 0) <;> rfl) (by unfold slices_IndexFunc_api_Sample_api_Sample_f1_series_rises_1_x1; simp)
  rcases H with ⟨v, h1, h2⟩ | ⟨h1, h2⟩
  · rw [h1]; unfold negB; rw [h2]; simp
  · rw [h1]; unfold negB; rw [h2]; simp
/-! ### Rises -/
def rise (x y : api_Sample) : api_Rise := api_Rise.mk x.At y.At (if y.Value < x.Value then y.Value else y.Value - x.Value) (decide (y.Value < x.Value))
end Go.Eng

/-
The law CountersRead: what grew, gaps, the whole.
-/
namespace Go.Eng
open Go
set_option linter.unusedVariables false
set_option linter.unusedSimpArgs false

/-- A loop over all elements of a list that only gathers. -/
theorem fold_loop {τ σ ρ α : Type} {l : List α} {f : τ → Option (τ ⊕ ρ)} (e : σ → Int → τ) (h : σ → α → σ) (fin : σ → ρ) (I : Nat → σ → Prop) {s0 : σ} (hl : (l.length : Int) ≤ 9223372036854775807)
    (hf : ∀ (i : Nat) (hi : i < l.length) (s : σ), I i s → f (e s i) = some (.inl (e (h s l[i]) (IntKind.wrap .i64 (i + 1)))) ∧ I (i + 1) (h s l[i])) (hd : ∀ s, I l.length s → f (e s l.length) = some (.inr (fin s))) (h0 : I 0 s0) :
    loopO f (e s0 0) = some (fin (l.foldl h s0)) ∧ I l.length (l.foldl h s0) := by
  have key : ∀ (n i : Nat) (s : σ), l.length - i = n → i ≤ l.length → I i s → loopO f (e s i) = some (fin ((l.drop i).foldl h s)) ∧ I l.length ((l.drop i).foldl h s) := by
    intro n
    induction n with
    | zero =>
      intro i s h1 h2 h3
      have : i = l.length := by omega
      subst this
      rw [List.drop_length]
      refine ⟨?_, h3⟩
      rw [loopO_eq, hd s h3]
      rfl
    | succ n ih =>
      intro i s h1 h2 h3
      have hi : i < l.length := by omega
      obtain ⟨g1, g2⟩ := hf i hi s h3
      obtain ⟨f1, f2⟩ := ih (i + 1) (h s l[i]) (by omega) (by omega) g2
      rw [drop_get hi, List.foldl_cons]
      refine ⟨?_, f2⟩
      rw [loopO_eq, g1]
      simp only [Option.bind_some]
      rw [wrap64 (by omega) (by omega)]
      exact f1
  have := key l.length 0 s0 (by omega) (by omega) h0
  simpa using this

/-! ### Grown -/
theorem grown_ok (w : api_Window) (rs : List api_Rise) (hl : (rs.length : Int) ≤ 9223372036854775807) : ∃ n, loopO (series_Grown_x1 w rs) (0, 0) = some n := by
  have := fold_loop (l := rs) (f := series_Grown_x1 w rs) (fun (n : Int) i => (n, i)) (fun n y => bif decide (w.From < y.To) then (bif decide (y.To ≤ w.To) then IntKind.wrap .i64 (n + y.By) else n) else n) id (fun _ _ => True) (s0 := 0) hl (fun i hi n _ => by
    refine ⟨?_, trivial⟩
    unfold series_Grown_x1 series_Grown_x2 series_Grown_x3
    have : ((i : Int) < rs.length) := by omega
    simp only [this, decide_true, cond_true, at_nat hi, Option.bind_some]
    cases decide (w.From < rs[i].To) <;> cases decide (rs[i].To ≤ w.To) <;> rfl) (fun n _ => by unfold series_Grown_x1; simp) trivial
  exact ⟨_, this.1⟩

/-! ### Gaps -/
def gp (most a b : Int) : List api_Window := if most < b - a then [api_Window.mk a b] else []
def adj (most : Int) : Int → List Int → List api_Window
  | _, [] => []
  | a, b :: r => gp most a b ++ adj most b r
def lastI : Int → List Int → Int
  | a, [] => a
  | _, b :: r => lastI b r
def inW (w : api_Window) (x : api_Sample) : Bool := decide (w.From ≤ x.At) && decide (x.At < w.To)
def moms (w : api_Window) (l : List api_Sample) : List Int := (l.filter (inW w)).map (·.At)

theorem adj_snoc (most : Int) : ∀ (a : Int) (l : List Int) (b : Int), adj most a (l ++ [b]) = adj most a l ++ gp most (lastI a l) b
  | a, [], b => by simp [adj, lastI]
  | a, c :: l, b => by simp [adj, lastI, adj_snoc most c l b]
theorem gp_len (most a b : Int) : (gp most a b).length ≤ 1 := by unfold gp; split <;> simp

theorem close_eq {most a b : Int} {out : List api_Window} (ha : -2199023255552 ≤ a ∧ a ≤ 2199023255552) (hb : -2199023255552 ≤ b ∧ b ≤ 2199023255552) (ho : out.length ≤ 1000000) : series_Gaps_1_b2o b a most out = some (out ++ gp most a b) := by
  unfold series_Gaps_1_b2o series_Gaps_1_b2o_x1 gp
  rw [wrap64 (n := b - a) (by omega) (by omega)]
  by_cases h : most < b - a
  · simp only [h, decide_true, cond_true, if_true]
    rw [gd_true (ble_lim (by simp; omega))]
    rfl
  · simp [h]
theorem series_in_eq (w : api_Window) (x : api_Sample) : series_in w x.At = some (inW w x) := by
  unfold series_in series_in_x1 inW
  cases decide (w.From ≤ x.At) <;> rfl
def gStep (w : api_Window) (most : Int) (s : List api_Window × Int) (x : api_Sample) : List api_Window × Int := cond (inW w x) (s.1 ++ gp most s.2 x.At, x.At) s
theorem gStep_fold (w : api_Window) (most : Int) : ∀ (l : List api_Sample) (out : List api_Window) (a : Int), l.foldl (gStep w most) (out, a) = (out ++ adj most a (moms w l), lastI a (moms w l))
  | [], out, a => by simp [moms, adj, lastI]
  | x :: l, out, a => by
    rw [List.foldl_cons]
    unfold gStep
    cases h : inW w x with
    | true =>
      simp only [cond_true]
      have := gStep_fold w most l (out ++ gp most a x.At) x.At
      rw [show (l.foldl (fun s x => cond (inW w x) (s.1 ++ gp most s.2 x.At, x.At) s) (out ++ gp most a x.At, x.At)) = l.foldl (gStep w most) (out ++ gp most a x.At, x.At) from rfl, this]
      simp [moms, List.filter_cons, h, adj, lastI]
    | false =>
      simp only [cond_false]
      have := gStep_fold w most l out a
      rw [show (l.foldl (fun s x => cond (inW w x) (s.1 ++ gp most s.2 x.At, x.At) s) (out, a)) = l.foldl (gStep w most) (out, a) from rfl, this]
      simp [moms, List.filter_cons, h]

theorem gaps1_eq {l : List api_Sample} {w : api_Window} {most : Int} (hb : SBnd l) (hw : WBnd w) (hl : l.length ≤ 100000) :
    loopO (series_Gaps_x1 l w most) ([], w.From, 0) = some (adj most w.From (moms w l), lastI w.From (moms w l)) ∧ (adj most w.From (moms w l)).length ≤ 100000 ∧ (-2199023255552 ≤ lastI w.From (moms w l) ∧ lastI w.From (moms w l) ≤ 2199023255552) := by
  have := fold_loop (l := l) (f := series_Gaps_x1 l w most) (fun (s : List api_Window × Int) i => (s.1, s.2, i)) (gStep w most) id (fun i s => s.1.length ≤ i ∧ (-2199023255552 ≤ s.2 ∧ s.2 ≤ 2199023255552)) (s0 := ([], w.From)) (by omega) (fun i hi s hs => by
    obtain ⟨out, a⟩ := s
    obtain ⟨h1, h2⟩ := hs
    simp only at h1 h2
    obtain ⟨_, _, b3, _⟩ := hb l[i] (List.getElem_mem hi)
    unfold series_Gaps_x1 series_Gaps_x2 gStep
    have : ((i : Int) < l.length) := by omega
    simp only [this, decide_true, cond_true, at_nat hi, Option.bind_some, series_in_eq]
    cases inW w l[i] with
    | true =>
      simp only [cond_true]
      rw [close_eq h2 b3 (by omega)]
      refine ⟨rfl, ?_, b3⟩
      have := gp_len most a l[i].At
      simp only [List.length_append]; omega
    | false => exact ⟨rfl, by simp only [cond_false]; omega, h2⟩) (fun s _ => by unfold series_Gaps_x1; simp) ⟨by simp, hw.1⟩
  rw [gStep_fold] at this
  obtain ⟨h1, h2, h3⟩ := this
  simp only [List.nil_append] at h1 h2 h3
  exact ⟨h1, by omega, h3⟩

theorem adj_len (most : Int) : ∀ (a : Int) (l : List Int), (adj most a l).length ≤ l.length
  | _, [] => by simp [adj]
  | a, b :: l => by
    have := adj_len most b l
    have := gp_len most a b
    simp only [adj, List.length_append, List.length_cons]; omega

end Go.Eng

/-
Pairing two series: the nearest measurement, found by halving and by looking at all.
-/
namespace Go.Eng
open Go
set_option linter.unusedVariables false
set_option linter.unusedSimpArgs false

def dist (t a : Int) : Int := imax (t - a) (a - t)
theorem dist_le {t a : Int} (h : a ≤ t) : dist t a = t - a := by unfold dist imax; split <;> omega
theorem dist_ge {t a : Int} (h : t ≤ a) : dist t a = a - t := by unfold dist imax; split <;> omega

/-- The first of those that are nearest, if it is near enough. -/
def Best (A : Nat → Int) (n : Nat) (t most k : Int) : Prop :=
  (k = -1 ∧ ∀ j, j < n → most < dist t (A j)) ∨
  ∃ m : Nat, k = m ∧ m < n ∧ dist t (A m) ≤ most ∧ (∀ j, j < m → dist t (A m) < dist t (A j)) ∧ ∀ j, m < j → j < n → dist t (A m) ≤ dist t (A j)
theorem Best.uniq {A : Nat → Int} {n : Nat} {t most k k' : Int} (h : Best A n t most k) (h' : Best A n t most k') : k = k' := by
  rcases h with ⟨h1, h2⟩ | ⟨m, h1, h2, h3, h4, h5⟩ <;> rcases h' with ⟨g1, g2⟩ | ⟨m', g1, g2, g3, g4, g5⟩
  · omega
  · have := h2 m' g2; omega
  · have := g2 m h2; omega
  · rcases Nat.lt_trichotomy m m' with h | h | h
    · have := g4 m h; have := h5 m' h g2; omega
    · omega
    · have := h4 m' h; have := g5 m h h2; omega

/-- Found by halving: the place of a moment among moments that rise. -/
theorem best_place {A : Nat → Int} {n i : Nat} {t most : Int} (hA : ∀ j k, j < k → k < n → A j < A k) (hi : i ≤ n) (h1 : ∀ j, j < i → A j < t) (h2 : ∀ j, i ≤ j → j < n → t ≤ A j) :
    (∀ a, i = a + 1 → dist t (A a) ≤ most → (i < n → dist t (A a) ≤ dist t (A i)) → Best A n t most a) ∧
    (∀ a, i = a + 1 → i < n → dist t (A i) < dist t (A a) → dist t (A i) ≤ most → Best A n t most i) ∧
    (i = 0 → i < n → dist t (A i) ≤ most → Best A n t most i) ∧
    ((∀ a, i = a + 1 → most < dist t (A a)) → (i < n → most < dist t (A i)) → Best A n t most (-1)) := by
  have lo : ∀ j, j < i → dist t (A j) = t - A j := fun j hj => dist_le (Int.le_of_lt (h1 j hj))
  have hg : ∀ j, i ≤ j → j < n → dist t (A j) = A j - t := fun j hj hn => dist_ge (h2 j hj hn)
  refine ⟨fun a ha hm hn => .inr ⟨a, rfl, by omega, hm, fun j hj => ?_, fun j hj hjn => ?_⟩, fun a ha hin hl hm => .inr ⟨i, rfl, hin, hm, fun j hj => ?_, fun j hj hjn => ?_⟩, fun h0 hin hm => .inr ⟨i, rfl, hin, hm, fun j hj => by omega, fun j hj hjn => ?_⟩, fun ha hb => .inl ⟨rfl, fun j hj => ?_⟩⟩
  · rw [lo a (by omega), lo j (by omega)]
    have := hA j a hj (by omega); omega
  · by_cases hji : j = i
    · subst hji; exact hn hjn
    · have := hn (by omega)
      rw [hg i (by omega) (by omega)] at this
      rw [hg j (by omega) hjn]
      have := hA i j (by omega) hjn; omega
  · rw [lo a (by omega)] at hl
    rw [lo j hj]
    by_cases hja : j = a
    · subst hja; exact hl
    · have := hA j a (by omega) (by omega); omega
  · rw [hg i (by omega) (by omega), hg j (by omega) hjn]
    have := hA i j hj hjn; omega
  · rw [hg i (by omega) (by omega), hg j (by omega) hjn]
    have := hA i j hj hjn; omega
  · by_cases hji : j < i
    · have := ha (i - 1) (by omega)
      rw [lo (i - 1) (by omega)] at this
      rw [lo j hji]
      by_cases h3 : j = i - 1
      · subst h3; exact this
      · have := hA j (i - 1) (by omega) (by omega); omega
    · have := hb (by omega)
      rw [hg i (by omega) (by omega)] at this
      rw [hg j (by omega) hj]
      by_cases h3 : j = i
      · subst h3; exact this
      · have := hA i j (by omega) hj; omega

def atN (l : List api_Sample) (j : Nat) : Int := (l[j]?.map (·.At)).getD 0
theorem atN_eq {l : List api_Sample} {j : Nat} (h : j < l.length) : atN l j = l[j].At := by unfold atN; rw [List.getElem?_eq_getElem h]; rfl

theorem half_eq {i j : Int} (h0 : 0 ≤ i) (h1 : i ≤ j) (h2 : j ≤ 1000000) : IntKind.wrap .i64 (ishr .u64 (IntKind.wrap .u64 (IntKind.wrap .i64 (i + j))) 1) = (i + j) / 2 := by
  rw [wrap64 (n := i + j) (by omega) (by omega)]
  have e : IntKind.wrap .u64 (i + j) = i + j := by
    unfold IntKind.wrap
    simp [IntKind.min, IntKind.max, IntKind.bits, IntKind.signed]
    omega
  rw [e]
  have e2 : ishr .u64 (i + j) 1 = (i + j) / 2 := by
    unfold ishr
    have : (2 : Int) ^ (min (1 : Int).toNat (IntKind.bits .u64)) = 2 := by decide
    rw [this]
    exact Int.fdiv_eq_ediv_of_nonneg _ (by omega)
  rw [e2, wrap64 (by omega) (by omega)]

/-! ### Looking at two -/
/-! ### Looking at all -/
end Go.Eng

/-
Thinning a series, both ways.
-/
namespace Go.Eng
open Go
set_option linter.unusedVariables false
set_option linter.unusedSimpArgs false

theorem sub_ok {α : Type} {l : List α} {a b : Int} (h0 : 0 ≤ a) (h1 : a ≤ b) (h2 : b ≤ l.length) :
    ∃ p, sub? l a b = some p ∧ (p.length : Int) = b - a ∧ ∀ (j : Nat) (hj : j < p.length), ∃ h : a.toNat + j < l.length, p[j] = l[a.toNat + j] := by
  refine ⟨(l.take b.toNat).drop a.toNat, ?_, ?_, fun j hj => ?_⟩
  · unfold sub?
    rw [if_pos ⟨h0, h1, h2⟩]
  · simp; omega
  · have : j < b.toNat - a.toNat := by simp at hj; omega
    refine ⟨by omega, ?_⟩
    simp

/-! ### The bounds of the parts -/
def qn (N M k : Int) : Int := (k * N) / M
theorem qn_zero (N M : Int) : qn N M 0 = 0 := by unfold qn; simp
theorem qn_full {N M : Int} (h : 0 < M) : qn N M M = N := by unfold qn; exact Int.mul_ediv_cancel_left N (by omega)
theorem qn_mono {N M j k : Int} (hM : 0 < M) (hN : 0 ≤ N) (h : j ≤ k) : qn N M j ≤ qn N M k := by
  unfold qn
  exact Int.ediv_le_ediv hM (Int.mul_le_mul_of_nonneg_right h hN)
theorem qn_next {N M k : Int} (hM : 0 < M) (hNM : M ≤ N) : qn N M k + 1 ≤ qn N M (k + 1) := by
  unfold qn
  have h : (k * N + M) / M ≤ ((k + 1) * N) / M := Int.ediv_le_ediv hM (by rw [Int.add_mul]; omega)
  have h2 : (k * N + M) / M = k * N / M + 1 := by
    have := Int.add_mul_ediv_right (k * N) 1 (show M ≠ 0 by omega)
    rw [Int.one_mul] at this
    exact this
  omega
theorem qn_nonneg {N M k : Int} (hM : 0 < M) (hN : 0 ≤ N) (hk : 0 ≤ k) : 0 ≤ qn N M k := by
  have := qn_mono hM hN hk; rw [qn_zero] at this; exact this

theorem first_eq {n many k : Int} (hn : 3 ≤ n ∧ n ≤ 5000) (hm : 3 ≤ many ∧ many ≤ 5000) (hk : 0 ≤ k ∧ k ≤ 10000) :
    IntKind.wrap .i64 ((1 : Int) + (IntKind.wrap .i64 ((IntKind.wrap .i64 (k * (IntKind.wrap .i64 (n - 2)))).tdiv (IntKind.wrap .i64 (many - 2))))) = 1 + qn (n - 2) (many - 2) k := by
  rw [wrap64 (n := n - 2) (by omega) (by omega), wrap64 (n := many - 2) (by omega) (by omega)]
  have h1 : 0 ≤ k * (n - 2) := Int.mul_nonneg hk.1 (by omega)
  have h2 : k * (n - 2) ≤ 10000 * 5000 := Int.mul_le_mul hk.2 (by omega) (by omega) (by omega)
  rw [wrap64 (n := k * (n - 2)) (by omega) (by omega), Int.tdiv_eq_ediv_of_nonneg h1]
  have h3 : 0 ≤ k * (n - 2) / (many - 2) := Int.ediv_nonneg h1 (by omega)
  have h4 : k * (n - 2) / (many - 2) ≤ k * (n - 2) := Int.ediv_le_self _ h1
  rw [wrap64 (n := k * (n - 2) / (many - 2)) (by omega) (by omega), wrap64 (by omega) (by omega)]
  rfl

/-! ### The area -/
def cr (a b c : api_Sample) : Int :=
  IntKind.wrap .i64 ((IntKind.wrap .i64 ((IntKind.wrap .i64 (b.At - a.At)) * (IntKind.wrap .i64 (c.Value - a.Value)))) - (IntKind.wrap .i64 ((IntKind.wrap .i64 (c.At - a.At)) * (IntKind.wrap .i64 (b.Value - a.Value)))))
def ar (a b c : api_Sample) : Int := imax (cr a b c) (IntKind.wrap .i64 (0 - cr a b c))
theorem mul_bnd {x y X Y : Int} (hx : -X ≤ x ∧ x ≤ X) (hy : -Y ≤ y ∧ y ≤ Y) : -(X * Y) ≤ x * y ∧ x * y ≤ X * Y := by
  have hX : 0 ≤ X := by omega
  have hY : 0 ≤ Y := by omega
  have h1 : 0 ≤ (X - x) * (Y + y) := Int.mul_nonneg (by omega) (by omega)
  have h2 : 0 ≤ (X + x) * (Y - y) := Int.mul_nonneg (by omega) (by omega)
  have h3 : 0 ≤ (X - x) * (Y - y) := Int.mul_nonneg (by omega) (by omega)
  have h4 : 0 ≤ (X + x) * (Y + y) := Int.mul_nonneg (by omega) (by omega)
  simp only [Int.sub_mul, Int.add_mul, Int.mul_sub, Int.mul_add] at h1 h2 h3 h4
  omega
theorem ar_nonneg {a b c : api_Sample} (h1 : -864000000 ≤ b.At - a.At ∧ b.At - a.At ≤ 864000000) (h2 : -864000000 ≤ c.At - a.At ∧ c.At - a.At ≤ 864000000) (ha : -1000000000 ≤ a.Value ∧ a.Value ≤ 1000000000)
    (hb : -1000000000 ≤ b.Value ∧ b.Value ≤ 1000000000) (hc : -1000000000 ≤ c.Value ∧ c.Value ≤ 1000000000) : -1 < ar a b c := by
  have e1 := mul_bnd (Y := 2000000000) h1 (y := c.Value - a.Value) (by omega)
  have e2 := mul_bnd (Y := 2000000000) h2 (y := b.Value - a.Value) (by omega)
  unfold ar cr
  rw [wrap64 (n := b.At - a.At) (by omega) (by omega), wrap64 (n := c.Value - a.Value) (by omega) (by omega), wrap64 (n := c.At - a.At) (by omega) (by omega), wrap64 (n := b.Value - a.Value) (by omega) (by omega)]
  generalize (b.At - a.At) * (c.Value - a.Value) = x at e1 ⊢
  generalize (c.At - a.At) * (b.Value - a.Value) = y at e2 ⊢
  rw [wrap64 (n := x) (by omega) (by omega), wrap64 (n := y) (by omega) (by omega), wrap64 (n := x - y) (by omega) (by omega), wrap64 (n := 0 - (x - y)) (by omega) (by omega)]
  unfold imax
  split <;> omega

/-! ### The middle of a part -/
theorem mean_bnd {s n lo hi : Int} (hn : 0 < n) (h1 : n * lo ≤ s) (h2 : s ≤ n * hi) : lo ≤ s / n ∧ s / n ≤ hi :=
  ⟨Int.le_ediv_of_mul_le hn (by rw [Int.mul_comm]; exact h1), by
    have := Int.ediv_le_ediv hn h2
    rw [Int.mul_ediv_cancel_left _ (by omega)] at this
    exact this⟩
/-! ### The next middle -/
theorem mem_bnd {l : List api_Sample} (h : Right l) (hn : 0 < l.length) {y : api_Sample} (hy : y ∈ l) : ((l[0].At ≤ y.At ∧ y.At ≤ (l[l.length - 1]'(by omega)).At) ∧ (-1000000000 ≤ y.Value ∧ y.Value ≤ 1000000000)) := by
  obtain ⟨i, hi, rfl⟩ := List.mem_iff_getElem.1 hy
  refine ⟨⟨?_, ?_⟩, (h.bnd i hi).2⟩
  · by_cases h0 : i = 0
    · subst h0; exact Int.le_refl _
    · exact Int.le_of_lt (h.mono 0 i (by omega) hi)
  · by_cases h0 : i = l.length - 1
    · subst h0; exact Int.le_refl _
    · exact Int.le_of_lt (h.mono i (l.length - 1) (by omega) (by omega))

section
variable {l : List api_Sample} {many : Int}
theorem part_eq (hm : 3 ≤ many ∧ many ≤ 5000) (hn : many < l.length) (hl : l.length ≤ 5000) {k : Int} (hk : 0 ≤ k ∧ k ≤ many - 3) :
    ∃ p, series_Thin_1 k many l l.length = some p ∧ sub? l (1 + qn ((l.length : Int) - 2) (many - 2) k) (1 + qn ((l.length : Int) - 2) (many - 2) (k + 1)) = some p ∧ 0 < p.length ∧ (p.length : Int) = qn ((l.length : Int) - 2) (many - 2) (k + 1) - qn ((l.length : Int) - 2) (many - 2) k ∧
      (∀ (j : Nat) (hj : j < p.length), ∃ h : (1 + qn ((l.length : Int) - 2) (many - 2) k).toNat + j < l.length, p[j] = l[(1 + qn ((l.length : Int) - 2) (many - 2) k).toNat + j]) ∧ 0 ≤ qn ((l.length : Int) - 2) (many - 2) k := by
  have n0 := qn_nonneg (N := (l.length : Int) - 2) (M := many - 2) (k := k) (by omega) (by omega) hk.1
  have n1 := qn_next (N := (l.length : Int) - 2) (M := many - 2) (k := k) (by omega) (by omega)
  have n2 := qn_mono (N := (l.length : Int) - 2) (M := many - 2) (j := k + 1) (k := many - 2) (by omega) (by omega) (by omega)
  rw [qn_full (by omega)] at n2
  obtain ⟨p, e1, e2, e3⟩ := sub_ok (l := l) (a := 1 + qn ((l.length : Int) - 2) (many - 2) k) (b := 1 + qn ((l.length : Int) - 2) (many - 2) (k + 1)) (by omega) (by omega) (by omega)
  refine ⟨p, ?_, e1, by omega, by omega, e3, n0⟩
  unfold series_Thin_1
  have c : ¬ (many - 3 < k) := by omega
  rw [wrap64 (n := many - 3) (by omega) (by omega), wrap64 (n := k + 1) (by omega) (by omega)]
  simp only [c, decide_false, cond_false]
  rw [first_eq (n := (l.length : Int)) (by omega) hm (k := k) (by omega), first_eq (n := (l.length : Int)) (by omega) hm (k := k + 1) (by omega), e1]
  have g : (!(IntKind.wrap .i64 (many - 2) == 0)) = true := by rw [wrap64 (by omega) (by omega)]; simp; omega
  rw [gd_true g]
  rfl

/-! ### The one with the largest area -/
end
end Go.Eng

/-
The law SeriesPaired.
-/
namespace Go.Eng
open Go
set_option linter.unusedVariables false
set_option linter.unusedSimpArgs false

theorem First_eq (a b : Int) : base_First [a, b] = some (or0 a b) := by
  unfold base_First
  rw [range_loop (l := [a, b]) (fun _ x => if x = 0 then none else some (.inr x)) (.inl ()) (by simp)]
  · unfold or0
    by_cases ha : a = 0 <;> by_cases hb : b = 0 <;> simp [scan, ha, hb]
  · intro i h
    unfold base_First_x1
    have : ((i : Int) < ([a, b].length : Int)) := by omega
    simp only [this, decide_true, cond_true, at_nat h, Option.bind_some]
    by_cases h0 : [a, b][i] = 0 <;> simp [h0]
  · unfold base_First_x1; simp

theorem Clone_eq {l : List api_Sample} (h : l.length ≤ 100000) : slices_Clone_api_Sample_api_Sample l = some l := by
  unfold slices_Clone_api_Sample_api_Sample
  rw [gd_true (ble_lim (by simp; omega))]

end Go.Eng

/-
What a right series of a stream is.
-/
namespace Go.Eng
open Go
set_option linter.unusedVariables false
set_option linter.unusedSimpArgs false

structure RSer (low : Int) (l : List api_Sample) : Prop where
  dev : ∀ x ∈ l, x.Device = [100] ∧ x.Metric = [109]
  mom : ∀ x ∈ l, 1 ≤ x.At ∧ x.At ≤ 99999
  val : ∀ x ∈ l, low ≤ x.Value ∧ x.Value ≤ 1000
  inc : l.Pairwise fun x y => x.At < y.At

theorem RSer.nil (low : Int) : RSer low [] := ⟨(fun _ h => nomatch h), (fun _ h => nomatch h), (fun _ h => nomatch h), .nil⟩
theorem RSer.snoc {low : Int} {l : List api_Sample} (h : RSer low l) {a v : Int} (ha : 1 ≤ a ∧ a ≤ 99999) (hv : low ≤ v ∧ v ≤ 1000) (hl : ∀ x ∈ l, x.At < a) : RSer low (l ++ [api_Sample.mk [100] [109] a v]) := by
  refine ⟨fun x hx => ?_, fun x hx => ?_, fun x hx => ?_, ?_⟩
  · rcases List.mem_append.1 hx with hx | hx
    · exact h.dev x hx
    · rw [List.mem_singleton.1 hx]; exact ⟨rfl, rfl⟩
  · rcases List.mem_append.1 hx with hx | hx
    · exact h.mom x hx
    · rw [List.mem_singleton.1 hx]; exact ha
  · rcases List.mem_append.1 hx with hx | hx
    · exact h.val x hx
    · rw [List.mem_singleton.1 hx]; exact hv
  · rw [List.pairwise_append]
    refine ⟨h.inc, List.pairwise_singleton _ _, fun x hx y hy => ?_⟩
    rw [List.mem_singleton.1 hy]
    exact hl x hx

/-- A stream behind n more numbers, and what was made of them. -/
theorem RightSeries_right {k : Nat} {s : fleetmake_Stream} {most low : Int} (h : StrOk k s) (hk : k + 300 < 1099511627776) (hm : 0 ≤ most ∧ most ≤ 99) (hlow : -1000 ≤ low ∧ low ≤ 0) :
    Ok (fleetmake_Stream_RightSeries s most low) (fun r => StrOk (k + 300) r.1 ∧ RSer low r.2 ∧ (r.2.length : Int) ≤ most) := by
  unfold fleetmake_Stream_RightSeries
  refine (Range_ok h (by omega) (by omega) (by omega)).bind fun ⟨s1, n⟩ ⟨g1, g2, g3, _⟩ => ?_
  have g3 := g3 (by omega)
  simp only at g1 g2 g3
  refine Ok.bind (P := fun r => StrOk (k + 300) r.1 ∧ RSer low r.2 ∧ (r.2.length : Int) ≤ most) ?_ fun ⟨s2, out⟩ h2 => .some h2
  refine loop_ok (fun q : fleetmake_Stream × List api_Sample × Int × Int => ∃ i : Nat, q.2.2.2 = i ∧ i ≤ n ∧ StrOk (k + 1 + 2 * i) q.1 ∧ q.2.1.length = i ∧ (0 ≤ q.2.2.1 ∧ q.2.2.1 ≤ 1000 * i) ∧ RSer low q.2.1 ∧ ∀ x ∈ q.2.1, x.At ≤ q.2.2.1) (fun q => (n - q.2.2.2).toNat) ?_ ?_
  · rintro ⟨s2, out, a, i0⟩ ⟨i, e1, e2, e3, e4, e5, e6, e7⟩
    simp only at e1 e3 e4 e5 e6 e7
    subst e1
    unfold fleetmake_Stream_RightSeries_x1
    refine .cond (fun hc => ?_) (fun hc => ?_)
    · have hc' : (i : Int) < n := by simpa using hc
      refine (Pick_ok e3 (by omega) (by simp) (by simp)).bind fun d hd => ?_
      refine (Pick_ok (e3.nxt (by omega)) (by omega) (by simp) (by simp)).bind fun v hv => ?_
      have hd' : 1 ≤ d ∧ d ≤ 1000 := by simp at hd; omega
      have hv' : -70 ≤ v ∧ v ≤ 1000 := by simp at hv; omega
      rw [wrap64 (n := a + d) (by omega) (by omega), wrap64 (n := (i : Int) + 1) (by omega) (by omega)]
      refine .gd (ble_lim (by simp; omega)) (.some ⟨⟨i + 1, by simp, by omega, ?_, by simp [e4], ?_, ?_, ?_⟩, ?_⟩)
      · exact ((e3.nxt (by omega)).nxt (by omega)).mono (by omega)
      · simp only; omega
      · refine e6.snoc (by omega) ?_ (fun x hx => by have := e7 x hx; omega)
        unfold imax
        split <;> omega
      · intro x hx
        simp only at hx ⊢
        rcases List.mem_append.1 hx with hx | hx
        · have := e7 x hx; omega
        · rw [List.mem_singleton.1 hx]; simp
      · simp only; omega
    · have hc' : ¬ (i : Int) < n := by simpa using hc
      exact .some ⟨e3.mono (by omega), e6, by simp only; omega⟩
  · exact ⟨0, rfl, by omega, g1.mono (by omega), rfl, by simp, RSer.nil low, (fun x hx => nomatch hx)⟩

theorem RSer.bnd {low : Int} {l : List api_Sample} (h : RSer low l) (hlow : -1000 ≤ low) : SBnd l := by
  intro x hx
  obtain ⟨h1, h2⟩ := h.dev x hx
  have h3 := h.mom x hx
  have h4 := h.val x hx
  rw [h1, h2]
  refine ⟨by simp, by simp, by omega, by omega⟩
theorem RSer.right {low : Int} {l : List api_Sample} (h : RSer low l) (hlow : -1000 ≤ low) (hl : l.length ≤ 5000) : Right l := by
  refine ⟨hl, fun i hi => ?_, fun i hi => ?_⟩
  · have h3 := h.mom _ (List.getElem_mem hi)
    have h4 := h.val _ (List.getElem_mem hi)
    omega
  · exact List.pairwise_iff_getElem.1 h.inc i (i + 1) (by omega) hi (by omega)
theorem smpB_ok {x : api_Sample} (k1 : keyB x.Device = true) (k2 : keyB x.Metric = true) (h1 : 0 ≤ x.At ∧ x.At ≤ 345686399999) (h2 : -1000000000 ≤ x.Value ∧ x.Value ≤ 1000000000) : smpB x = none := by
  unfold smpB
  rw [k1, k2, if_neg (by simp), if_neg (by simp [h1.1, h1.2, h2.1, h2.2])]
/-- A series of one device and one metric whose moments rise is right. -/
theorem series_zero {l : List api_Sample} {d m : List UInt8} (hr : Right l) (ho : ∀ x ∈ l, x.Device = d ∧ x.Metric = m) (kd : keyB d = true) (km : keyB m = true) : seriesV l = 0 := by
  have hc : checkV l = 0 := by
    unfold checkV
    have := hr.len
    rw [if_neg (by omega)]
    rw [scan_none.2]
    · rfl
    · intro i x hx
      obtain ⟨hi, rfl⟩ := List.getElem?_eq_some_iff.1 hx
      obtain ⟨o1, o2⟩ := ho _ (List.getElem_mem hi)
      obtain ⟨b1, b2⟩ := hr.bnd i hi
      rw [Nat.zero_add]
      unfold chkG
      rw [smpB_ok (by rw [o1]; exact kd) (by rw [o2]; exact km) b1 b2]
      cases i with
      | zero => rfl
      | succ j =>
        simp only
        have hj : j < l.length := by omega
        rw [List.getElem?_eq_getElem hj]
        simp only
        obtain ⟨p1, p2⟩ := ho _ (List.getElem_mem hj)
        have hn := hr.next j hi
        rw [if_neg]
        unfold sOrd or0
        rw [o1, o2, p1, p2, cmpB_self, cmpB_self]
        simp only [if_true]
        unfold cmpI
        rw [if_neg (by omega), if_pos hn]
        decide
  unfold seriesV
  rw [if_neg (by simp [hc])]
  have : anyDiff l = false := by
    cases l with
    | nil => rfl
    | cons y l =>
      unfold anyDiff
      rw [List.any_eq_false]
      intro x hx
      obtain ⟨o1, o2⟩ := ho x hx
      obtain ⟨p1, p2⟩ := ho y (by simp)
      simp [diffB, o1, o2, p1, p2]
  rw [this]
  rfl
theorem RSer.zero {low : Int} {l : List api_Sample} (h : RSer low l) (hlow : -1000 ≤ low) (hl : l.length ≤ 5000) : seriesV l = 0 :=
  series_zero (h.right hlow hl) h.dev (by decide) (by decide)
end Go.Eng

/-
What Thin answers for a right series.
-/
namespace Go.Eng
open Go
set_option linter.unusedVariables false
set_option linter.unusedSimpArgs false

theorem down1 {a b : Int} (hb : 0 < b) (ha : -10000000000000000 ≤ a ∧ a ≤ 10000000000000000) : base_Down a b = some (a / b) := by
  have h0 : (!(b == 0)) = true := by simp; omega
  unfold base_Down base_Down_x1
  rw [gd_true h0]
  have e := Int.tmod_add_mul_tdiv a b
  have l1 := Int.tmod_lt_of_pos a hb
  have l2 := Int.lt_tmod_of_pos a hb
  obtain ⟨q1, q2⟩ := mean_bnd (s := a) (lo := -10000000000000000) (hi := 10000000000000000) hb (by omega) (by omega)
  by_cases hr : a.tmod b < 0
  · have h : a / b = a.tdiv b - 1 := ((Int.ediv_emod_unique (r := a.tmod b + b) hb).2 ⟨by rw [Int.mul_sub, Int.mul_one]; omega, by omega, by omega⟩).1
    have w1 : IntKind.wrap .i64 (a.tdiv b) = a.tdiv b := wrap64 (by omega) (by omega)
    have w2 : IntKind.wrap .i64 (a.tdiv b - 1) = a.tdiv b - 1 := wrap64 (by omega) (by omega)
    simp [hr, w1, w2, h, gd_true h0]
  · have h : a / b = a.tdiv b := ((Int.ediv_emod_unique (r := a.tmod b) hb).2 ⟨e, by omega, by omega⟩).1
    have w1 : IntKind.wrap .i64 (a.tdiv b) = a.tdiv b := wrap64 (by omega) (by omega)
    simp [hr, w1, h, gd_true h0]

theorem sum1 {p : List api_Sample} {lo hi : Int} (hp : p.length ≤ 5000) (hlo : 0 ≤ lo) (hhi : hi ≤ 345686399999) (hb : ∀ y ∈ p, (lo ≤ y.At ∧ y.At ≤ hi) ∧ (-1000000000 ≤ y.Value ∧ y.Value ≤ 1000000000)) :
    ∃ sa sv, loopO (series_middle_x1 p) (api_Sample.mk [] [] 0 0, 0) = some (api_Sample.mk [] [] sa sv) ∧
      ((p.length : Int) * lo ≤ sa ∧ sa ≤ (p.length : Int) * hi) ∧ ((p.length : Int) * (-1000000000) ≤ sv ∧ sv ≤ (p.length : Int) * 1000000000) := by
  let h : Int × Int → api_Sample → Int × Int := fun s y => (s.1 + y.At, s.2 + y.Value)
  let I : Nat → Int × Int → Prop := fun i s => ((i : Int) * lo ≤ s.1 ∧ s.1 ≤ (i : Int) * hi) ∧ ((i : Int) * (-1000000000) ≤ s.2 ∧ s.2 ≤ (i : Int) * 1000000000)
  have step : ∀ (i : Nat) (hi' : i < p.length) (s : Int × Int), I i s → I (i + 1) (h s p[i]) ∧ IntKind.wrap .i64 (s.1 + p[i].At) = s.1 + p[i].At ∧ IntKind.wrap .i64 (s.2 + p[i].Value) = s.2 + p[i].Value := by
    rintro i hi' s ⟨⟨a1, a2⟩, a3, a4⟩
    obtain ⟨⟨b1, b2⟩, b3, b4⟩ := hb p[i] (List.getElem_mem hi')
    have c1 : (i : Int) * hi ≤ 5000 * hi := Int.mul_le_mul_of_nonneg_right (by omega) (by omega)
    have c2 : 0 ≤ (i : Int) * lo := Int.mul_nonneg (by omega) hlo
    refine ⟨⟨⟨?_, ?_⟩, ?_, ?_⟩, wrap64 (by omega) (by omega), wrap64 (by omega) (by omega)⟩
    · show ((i + 1 : Nat) : Int) * lo ≤ s.1 + p[i].At
      rw [Int.natCast_add, Int.add_mul]; omega
    · show s.1 + p[i].At ≤ ((i + 1 : Nat) : Int) * hi
      rw [Int.natCast_add, Int.add_mul]; omega
    · show ((i + 1 : Nat) : Int) * (-1000000000) ≤ s.2 + p[i].Value
      omega
    · show s.2 + p[i].Value ≤ ((i + 1 : Nat) : Int) * 1000000000
      omega
  have z : I 0 (0, 0) := ⟨by simp, by simp⟩
  obtain ⟨e1, i1⟩ := fold_loop (l := p) (f := series_middle_x1 p) (fun s i => (api_Sample.mk [] [] s.1 s.2, i)) h (fun s => api_Sample.mk [] [] s.1 s.2) I (s0 := (0, 0)) (by omega) (fun i hi' s hs => by
      obtain ⟨g1, g2, g3⟩ := step i hi' s hs
      refine ⟨?_, g1⟩
      unfold series_middle_x1
      have : (i : Int) < p.length := by omega
      simp only [this, decide_true, cond_true, at_nat hi', Option.bind_some, g2, g3]
      rfl) (fun s _ => by unfold series_middle_x1; simp) z
  exact ⟨_, _, e1, i1⟩

theorem middle1 {p : List api_Sample} {lo hi : Int} (h0 : 0 < p.length) (hp : p.length ≤ 5000) (hlo : 0 ≤ lo) (hhi : hi ≤ 345686399999) (hb : ∀ y ∈ p, (lo ≤ y.At ∧ y.At ≤ hi) ∧ (-1000000000 ≤ y.Value ∧ y.Value ≤ 1000000000)) :
    ∃ m, series_middle p = some m ∧ (lo ≤ m.At ∧ m.At ≤ hi) ∧ (-1000000000 ≤ m.Value ∧ m.Value ≤ 1000000000) := by
  obtain ⟨sa, sv, e1, ⟨b1, b2⟩, b3, b4⟩ := sum1 hp hlo hhi hb
  have hn : (0 : Int) < p.length := by omega
  have c1 : (p.length : Int) * hi ≤ 5000 * hi := Int.mul_le_mul_of_nonneg_right (by omega) (by
    obtain ⟨⟨x1, x2⟩, _⟩ := hb p[0] (List.getElem_mem h0); omega)
  have c2 : 0 ≤ (p.length : Int) * lo := Int.mul_nonneg (by omega) hlo
  have m1 := mean_bnd hn b1 b2
  have m2 := mean_bnd hn b3 b4
  refine ⟨api_Sample.mk [] [] (sa / p.length) (sv / p.length), ?_, m1, m2⟩
  unfold series_middle
  have g0 : (!((p.length : Int) == 0)) = true := by rw [Bool.not_eq_true', beq_eq_false_iff_ne]; omega
  rw [e1]
  simp only [Option.bind_some, gd_true g0]
  rw [down1 (a := sv) hn (by omega), Int.tdiv_eq_ediv_of_nonneg (show 0 ≤ sa by omega)]
  simp only [Option.bind_some]
  rw [wrap64 (by omega) (by omega)]

section
variable {l : List api_Sample} {many : Int}
theorem next1 (h : Right l) (hm : 3 ≤ many ∧ many ≤ 5000) (hn : many < l.length) {k : Int} (hk : 0 ≤ k ∧ k ≤ many - 3) :
    ∃ p m, series_Thin_1 (k + 1) many l l.length = some p ∧ series_middle p = some m ∧
      (((l[0]'(by omega)).At ≤ m.At ∧ m.At ≤ (l[l.length - 1]'(by omega)).At) ∧ (-1000000000 ≤ m.Value ∧ m.Value ≤ 1000000000)) := by
  have hlen := h.len
  have h0 := (h.bnd 0 (by omega)).1
  have h1 := (h.bnd (l.length - 1) (by omega)).1
  by_cases hc : k < many - 3
  · obtain ⟨p, e1, e2, e3, e4, e5, e6⟩ := part_eq (l := l) hm hn hlen (k := k + 1) (by omega)
    obtain ⟨m, f1, f5, f6⟩ := middle1 (p := p) (lo := (l[0]'(by omega)).At) (hi := (l[l.length - 1]'(by omega)).At) e3 (by
        have n0 := qn_nonneg (N := (l.length : Int) - 2) (M := many - 2) (k := k + 1) (by omega) (by omega) (by omega)
        have n2 := qn_mono (N := (l.length : Int) - 2) (M := many - 2) (j := k + 1 + 1) (k := many - 2) (by omega) (by omega) (by omega)
        rw [qn_full (by omega)] at n2
        omega) h0.1 h1.2 (fun y hy => by
        obtain ⟨j, hj, rfl⟩ := List.mem_iff_getElem.1 hy
        obtain ⟨hx, hy'⟩ := e5 j hj
        rw [hy']
        exact mem_bnd h (by omega) (List.getElem_mem hx))
    exact ⟨p, m, e1, f1, f5, f6⟩
  · have hk3 : k = many - 3 := by omega
    obtain ⟨p, e1, e2, e3⟩ := sub_ok (l := l) (a := (l.length : Int) - 1) (b := l.length) (by omega) (by omega) (by omega)
    have hp1 : p.length = 1 := by omega
    obtain ⟨m, f1, f5, f6⟩ := middle1 (p := p) (lo := (l[0]'(by omega)).At) (hi := (l[l.length - 1]'(by omega)).At) (by omega) (by omega) h0.1 h1.2 (fun y hy => by
      obtain ⟨j, hj, rfl⟩ := List.mem_iff_getElem.1 hy
      obtain ⟨hx, hy'⟩ := e3 j hj
      rw [hy']
      exact mem_bnd h (by omega) (List.getElem_mem hx))
    refine ⟨p, m, ?_, f1, f5, f6⟩
    unfold series_Thin_1
    have c : many - 3 < k + 1 := by omega
    rw [wrap64 (n := many - 3) (by omega) (by omega), wrap64 (n := (l.length : Int) - 1) (by omega) (by omega)]
    simp only [c, decide_true, cond_true, e1, Option.bind_some]

theorem best1 (h : Right l) (hm : 3 ≤ many ∧ many ≤ 5000) (hn : many < l.length) (hspan : (l[l.length - 1]'(by omega)).At - (l[0]'(by omega)).At ≤ 864000000) {k : Int} (hk : 0 ≤ k ∧ k ≤ many - 3) {a m : api_Sample} (ha : a ∈ l)
    (hb : ((l[0]'(by omega)).At ≤ m.At ∧ m.At ≤ (l[l.length - 1]'(by omega)).At) ∧ (-1000000000 ≤ m.Value ∧ m.Value ≤ 1000000000)) :
    ∃ p y, series_Thin_1 k many l l.length = some p ∧ loopO (series_Thin_x2 a m p) (api_Sample.mk [] [] 0 0, -1, 0) = some y ∧
      ∃ (j : Nat) (hj : j < l.length), y = l[j] ∧ 1 + qn ((l.length : Int) - 2) (many - 2) k ≤ j ∧ (j : Int) < 1 + qn ((l.length : Int) - 2) (many - 2) (k + 1) := by
  have hlen := h.len
  have ba := mem_bnd h (by omega) ha
  obtain ⟨p, p1, p2, p3, p4, p5, p6⟩ := part_eq (l := l) hm hn hlen hk
  have n2 := qn_mono (N := (l.length : Int) - 2) (M := many - 2) (j := k + 1) (k := many - 2) (by omega) (by omega) (by omega)
  rw [qn_full (by omega)] at n2
  generalize qn ((l.length : Int) - 2) (many - 2) k = q0 at *
  generalize qn ((l.length : Int) - 2) (many - 2) (k + 1) = q1 at *
  have key : Ok (loopO (series_Thin_x2 a m p) (api_Sample.mk [] [] 0 0, -1, 0)) (fun y => ∃ (i : Nat) (hi : i < p.length), y = p[i]) := by
    refine loop_ok (fun s : api_Sample × Int × Int => 0 ≤ s.2.2 ∧ s.2.2 ≤ (p.length : Int) ∧ ((s.2.2 = 0 ∧ s.2.1 = -1) ∨ ∃ (i : Nat) (hi : i < p.length), s.1 = p[i])) (fun s => ((p.length : Int) - s.2.2).toNat) ?_ ⟨by simp, by simp, .inl ⟨rfl, rfl⟩⟩
    rintro ⟨sb, mo, j⟩ ⟨r1, r2, r3⟩
    simp only at r1 r2 r3
    unfold series_Thin_x2
    refine .cond (fun hc => ?_) (fun hc => ?_)
    · have hj : j < p.length := by simpa using hc
      have hjn : j.toNat < p.length := by omega
      obtain ⟨x1, x2⟩ := p5 j.toNat hjn
      have ey : at? p j = some p[j.toNat] := at_lt r1 hj
      have hy : p[j.toNat] ∈ l := by rw [x2]; exact List.getElem_mem x1
      have by' := mem_bnd h (by omega) hy
      have hpos := ar_nonneg (a := a) (b := p[j.toNat]) (c := m) (by omega) (by omega) ba.2 by'.2 hb.2
      have x3 : series_Thin_x3 a m p sb mo j = some (cond (decide (mo < ar a p[j.toNat] m)) (p[j.toNat], ar a p[j.toNat] m) (sb, mo)) := by
        unfold series_Thin_x3 series_area
        rw [ey]
        simp only [Option.bind_some]
        show cond (decide (mo < ar a p[j.toNat] m)) (some (p[j.toNat], ar a p[j.toNat] m)) (some (sb, mo)) = _
        cases decide (mo < ar a p[j.toNat] m) <;> rfl
      rw [x3]
      simp only [Option.bind_some]
      rw [wrap64 (n := j + 1) (by omega) (by omega)]
      cases hmo : decide (mo < ar a p[j.toNat] m) with
      | true =>
        simp only [cond_true]
        exact .some ⟨⟨by simp only; omega, by simp only; omega, .inr ⟨j.toNat, hjn, rfl⟩⟩, by simp only; omega⟩
      | false =>
        simp only [cond_false]
        refine .some ⟨⟨by simp only; omega, by simp only; omega, .inr ?_⟩, by simp only; omega⟩
        rcases r3 with ⟨_, r4⟩ | r4
        · have := of_decide_eq_false hmo
          omega
        · exact r4
    · have hj : ¬ j < p.length := by simpa using hc
      refine .some ?_
      rcases r3 with ⟨r4, _⟩ | r4
      · omega
      · exact r4
  obtain ⟨y, f1, i, hi, rfl⟩ := key
  obtain ⟨x1, x2⟩ := p5 i hi
  exact ⟨p, _, p1, f1, (1 + q0).toNat + i, x1, x2, by omega, by omega⟩

theorem thin1 (h : Right l) (hm : 3 ≤ many ∧ many ≤ 5000) (hn : many < l.length) (hspan : (l[l.length - 1]'(by omega)).At - (l[0]'(by omega)).At ≤ 864000000) :
    Ok (loopO (series_Thin_x1 l many) ([l[0]'(by omega)], 0)) (fun out => (out.length : Int) = many - 1 ∧ out[0]? = some (l[0]'(by omega)) ∧ (out ++ [l[l.length - 1]'(by omega)]).Pairwise (fun x y => x.At < y.At) ∧ ∀ x ∈ out, x ∈ l) := by
  have hlen := h.len
  refine loop_ok (fun s : List api_Sample × Int => 0 ≤ s.2 ∧ s.2 ≤ many - 2 ∧ (s.1.length : Int) = s.2 + 1 ∧ s.1[0]? = some (l[0]'(by omega)) ∧ s.1.Pairwise (fun x y => x.At < y.At) ∧
    ∀ x ∈ s.1, ∃ (i : Nat) (hi : i < l.length), x = l[i] ∧ (i : Int) < 1 + qn ((l.length : Int) - 2) (many - 2) s.2) (fun s => (many - s.2).toNat) ?_ ?_
  · rintro ⟨out, k⟩ ⟨h1, h2, h3, h0, h4, h5⟩
    simp only at h1 h2 h3 h0 h4 h5
    unfold series_Thin_x1
    rw [wrap64 (n := many - 2) (by omega) (by omega)]
    refine .cond (fun hc => ?_) (fun hc => ?_)
    · have hk : k < many - 2 := by simpa using hc
      rw [wrap64 (n := (out.length : Int) - 1) (by omega) (by omega), wrap64 (n := k + 1) (by omega) (by omega)]
      rw [at_lt (l := out) (n := (out.length : Int) - 1) (by omega) (by omega)]
      have ha : out[((out.length : Int) - 1).toNat]'(by omega) ∈ l := by
        obtain ⟨i, hi, e, _⟩ := h5 _ (List.getElem_mem (show ((out.length : Int) - 1).toNat < out.length by omega))
        rw [e]; exact List.getElem_mem hi
      generalize out[((out.length : Int) - 1).toNat]'(by omega) = a at ha
      obtain ⟨p, m, e1, e2, e6⟩ := next1 h hm hn (k := k) (by omega)
      obtain ⟨p', y, f1, f2, j, hj, f3, f4, f5⟩ := best1 h hm hn hspan (k := k) (by omega) ha e6
      have hb : Nat.ble (out.length + ([y] : List api_Sample).length) LIM = true := ble_lim (by simp; omega)
      simp only [Option.bind_some, e1, e2, f1, f2, gd_true hb]
      refine .some ⟨⟨by simp only; omega, by simp only; omega, by simp; omega, ?_, ?_, ?_⟩, by simp only; omega⟩
      · simp only
        rw [List.getElem?_append_left (by omega)]; exact h0
      · simp only
        rw [List.pairwise_append]
        refine ⟨h4, List.pairwise_singleton _ _, fun x hx z hz => ?_⟩
        rw [List.mem_singleton.1 hz, f3]
        obtain ⟨i, hi, e, g⟩ := h5 x hx
        rw [e]
        exact h.mono i j (by omega) hj
      · intro x hx
        simp only at hx ⊢
        rcases List.mem_append.1 hx with hx | hx
        · obtain ⟨i, hi, e, g⟩ := h5 x hx
          have := qn_mono (N := (l.length : Int) - 2) (M := many - 2) (j := k) (k := k + 1) (by omega) (by omega) (by omega)
          exact ⟨i, hi, e, by omega⟩
        · rw [List.mem_singleton.1 hx]
          exact ⟨j, hj, f3, f5⟩
    · have hk : ¬ k < many - 2 := by simpa using hc
      have hke : k = many - 2 := by omega
      subst hke
      rw [qn_full (by omega)] at h5
      refine .some ⟨by omega, h0, ?_, fun x hx => ?_⟩
      · rw [List.pairwise_append]
        refine ⟨h4, List.pairwise_singleton _ _, fun x hx z hz => ?_⟩
        rw [List.mem_singleton.1 hz]
        obtain ⟨i, hi, e, g⟩ := h5 x hx
        rw [e]
        exact h.mono i (l.length - 1) (by omega) (by omega)
      · obtain ⟨i, hi, e, _⟩ := h5 x hx
        rw [e]; exact List.getElem_mem hi
  · refine ⟨by simp, by simp only; omega, by simp, rfl, List.pairwise_singleton _ _, fun x hx => ?_⟩
    rw [List.mem_singleton.1 hx]
    refine ⟨0, by omega, rfl, ?_⟩
    simp only
    rw [qn_zero]; omega

theorem Thin_val {low : Int} (hs : RSer low l) (hlow : -1000 ≤ low) (hl : l.length ≤ 100) (hm : 3 ≤ many ∧ many ≤ 5000) :
    ∃ out, series_Thin l many = some (out, 0) ∧ (out.length : Int) = imin many l.length ∧ (∀ h : 0 < l.length, out[0]? = some l[0] ∧ out[out.length - 1]? = some (l[l.length - 1]'(by omega))) ∧ RSer low out ∧ ∀ x ∈ out, x ∈ l := by
  have hr := hs.right hlow (by omega)
  have hb := hs.bnd hlow
  have hz := hs.zero hlow (by omega)
  have m1 : ¬ many < 3 := by omega
  have m2 : ¬ (5000 : Int) < many := by omega
  unfold series_Thin
  rw [CheckSeries_eq hb (by omega), Out_eq, Clone_eq (by omega)]
  simp only [Option.bind_some]
  by_cases h4 : (l.length : Int) ≤ many
  · refine ⟨l, by simp [hz, m1, m2, h4], by unfold imin; split <;> omega, fun h => ⟨List.getElem?_eq_getElem h, List.getElem?_eq_getElem (by omega)⟩, hs, fun x hx => hx⟩
  · have a1 : at? l ((l.length : Int) - 1) = some (l[l.length - 1]'(by omega)) := by
      rw [at_lt (by omega) (by omega)]
      congr 2
      omega
    have a0 : at? l 0 = some (l[0]'(by omega)) := at_nat (n := 0) (by omega)
    have c0 := hs.mom _ (List.getElem_mem (show 0 < l.length by omega))
    have c1 := hs.mom _ (List.getElem_mem (show l.length - 1 < l.length by omega))
    have w1 : IntKind.wrap .i64 ((l.length : Int) - 1) = (l.length : Int) - 1 := wrap64 (by omega) (by omega)
    have w2 : IntKind.wrap .i64 ((l[l.length - 1]'(by omega)).At - (l[0]'(by omega)).At) = (l[l.length - 1]'(by omega)).At - (l[0]'(by omega)).At := wrap64 (by omega) (by omega)
    have h5 : ¬ (864000000 : Int) < (l[l.length - 1]'(by omega)).At - (l[0]'(by omega)).At := by omega
    obtain ⟨out, e1, e2, e3, e4, e5⟩ := thin1 hr hm (by omega) (by omega)
    have hg : Nat.ble (out.length + ([l[l.length - 1]'(by omega)] : List api_Sample).length) LIM = true := ble_lim (by simp; omega)
    have hmem : ∀ x ∈ out ++ [l[l.length - 1]'(by omega)], x ∈ l := by
      intro x hx
      rcases List.mem_append.1 hx with hx | hx
      · exact e5 x hx
      · rw [List.mem_singleton.1 hx]; exact List.getElem_mem _
    refine ⟨out ++ [l[l.length - 1]'(by omega)], ?_, ?_, fun h => ⟨?_, ?_⟩, ⟨fun x hx => hs.dev x (hmem x hx), fun x hx => hs.mom x (hmem x hx), fun x hx => hs.val x (hmem x hx), e4⟩, hmem⟩
    · simp only [hz, decide_true, Bool.not_true, cond_false, m1, m2, decide_false, Bool.or_self, h4, w1, a1, a0, Option.bind_some, w2, h5, e1, gd_true hg]
    · simp only [List.length_append, List.length_singleton]
      unfold imin
      split <;> omega
    · rw [List.getElem?_append_left (by omega)]; exact e3
    · simp
end
end Go.Eng

/-
What the laws ask of each package once.
-/
namespace Go.Eng
open Go
theorem ready_eq : fleetkeep2_ready = some true := by kernel_rfl
end Go.Eng

/-
The law ThinKeepsEnds.
-/
namespace Go.Eng
open Go
set_option linter.unusedVariables false
set_option linter.unusedSimpArgs false

theorem at_q {α : Type} (l : List α) (i : Nat) : at? l (i : Int) = l[i]? := by unfold at?; simp
theorem contains_mem {l : List api_Sample} {x : api_Sample} (hl : (l.length : Int) ≤ 9223372036854775807) (h : x ∈ l) : slices_Contains_api_Sample_api_Sample l x = some true := by
  unfold slices_Contains_api_Sample_api_Sample slices_Index_api_Sample_api_Sample
  have H := idx_loop (f := slices_Index_api_Sample_api_Sample_x1 l x) (fun y : api_Sample => (decide (x.Device = y.Device) && (decide (x.Metric = y.Metric) && (decide (x.At = y.At) && (decide (x.Value = y.Value) && true))))) hl (fun i hi => by
    unfold slices_Index_api_Sample_api_Sample_x1
    have : ((i : Int) < l.length) := by omega
    simp only [this, decide_true, cond_true, at_nat hi, Option.bind_some]
    cases (decide (x.Device = l[i].Device) && (decide (x.Metric = l[i].Metric) && (decide (x.At = l[i].At) && (decide (x.Value = l[i].Value) && true)))) <;> rfl) (by unfold slices_Index_api_Sample_api_Sample_x1; simp)
  rcases H with ⟨v, h1, h2⟩ | ⟨h1, h2⟩
  · rw [h1]
    simp
  · exfalso
    rw [List.any_eq_false] at h2
    have := h2 x h
    simp at this

theorem ThinKeepsEnds_true (L : List Int) (hL : L.length ≤ 9223372036854775807) (hI : ∀ n ∈ L, -9223372036854775808 ≤ n ∧ n ≤ 9223372036854775807) : fleetkeep2_ThinKeepsEnds L = some true := by
  refine Ok.eq ?_
  unfold fleetkeep2_ThinKeepsEnds
  have s0 : StrOk 0 (fleetmake_Stream.mk L 0) := ⟨Int.le_refl _, Int.le_refl _, hL, hI⟩
  refine (RightSeries_right s0 (by omega) (by omega) (by omega)).bind fun ⟨s1, l⟩ ⟨a1, a2, a3⟩ => ?_
  simp only at a1 a2 a3
  refine (Range_ok a1 (by omega) (by omega) (by omega)).bind fun ⟨s2, many⟩ ⟨b1, b2, b3, _⟩ => ?_
  have b3 := b3 (by omega)
  simp only at b1 b2 b3
  dsimp only
  obtain ⟨out, e1, e2, e3, e4, e5⟩ := Thin_val (many := many) a2 (by omega) (by omega) ⟨by omega, by omega⟩
  have hlen : out.length ≤ 100 := by unfold imin at e2; split at e2 <;> omega
  rw [e1]
  simp only [Option.bind_some]
  unfold fleetkeep2_ThinKeepsEnds_x1
  simp only [decide_true, Bool.not_true, cond_false, e2, Option.bind_some]
  have x2 : fleetkeep2_ThinKeepsEnds_x2 l out = some false := by
    unfold fleetkeep2_ThinKeepsEnds_x2
    by_cases h0 : (0 : Int) < out.length
    · have hl0 : 0 < l.length := by
        have := e5 _ (List.getElem_mem (show 0 < out.length by omega))
        exact List.length_pos_of_mem this
      obtain ⟨f1, f2⟩ := e3 hl0
      have w1 : IntKind.wrap .i64 ((out.length : Int) - 1) = ((out.length - 1 : Nat) : Int) := by rw [wrap64 (by omega) (by omega)]; omega
      have w2 : IntKind.wrap .i64 ((l.length : Int) - 1) = ((l.length - 1 : Nat) : Int) := by rw [wrap64 (by omega) (by omega)]; omega
      have t0 : at? out 0 = some l[0] := by rw [show (0 : Int) = ((0 : Nat) : Int) from rfl, at_q, f1]
      have t1 : at? l 0 = some l[0] := by rw [show (0 : Int) = ((0 : Nat) : Int) from rfl, at_q, List.getElem?_eq_getElem hl0]
      have t3 : at? l ((l.length - 1 : Nat) : Int) = some (l[l.length - 1]'(by omega)) := by rw [at_q, List.getElem?_eq_getElem (by omega)]
      simp only [h0, decide_true, cond_true, t0, t1, Option.bind_some, Bool.and_self, Bool.not_true, cond_false, w1, w2, at_q out, f2, t3]
    · simp only [h0, decide_false, cond_false]
  rw [x2]
  simp only [Option.bind_some, cond_false]
  have hloop : loopO (fleetkeep2_ThinKeepsEnds_x3 l out) 0 = some (.inl ()) := by
    rw [range_loop (l := out) (fun _ _ => none) (.inl ()) (by omega)]
    · have : scan (fun (_ : Nat) (_ : api_Sample) => (none : Option (Unit ⊕ Unit))) 0 out = none := scan_none.2 fun _ _ _ => rfl
      rw [this]
      rfl
    · intro i hi
      unfold fleetkeep2_ThinKeepsEnds_x3
      have : ((i : Int) < out.length) := by omega
      simp only [this, decide_true, cond_true, at_nat hi, Option.bind_some, contains_mem (l := l) (by omega) (e5 _ (List.getElem_mem hi)), Bool.not_true, cond_false]
    · unfold fleetkeep2_ThinKeepsEnds_x3
      simp
  rw [hloop]
  simp only [Option.bind_some]
  unfold fleetkeep2_ThinKeepsEnds_x4
  rw [CheckSeries_eq (e4.bnd (by omega)) (by omega), e4.zero (by omega) (by omega)]
  simp only [Option.bind_some, decide_true, cond_true, ready_eq]
  exact .some rfl
end Go.Eng

