/-
What the plain functions of the law RollUpsJoin answer, part 1.
-/
import Derived.Test.YteniijgeaofngaaGreatDoorGenF
import Derived.KernelRfl
import Derived.Test.YteniijgeaofngaaGreatDoorEngV
/-
Plain functions: what they answer, in total. Loops by an invariant and a measure.
-/
namespace Go.Eng
open Go
set_option linter.unusedVariables false
set_option linter.unusedSimpArgs false

def Ok {α : Type} (x : Option α) (P : α → Prop) : Prop := ∃ r, x = some r ∧ P r
section
variable {α β σ ρ : Type} {P Q : α → Prop} {R : β → Prop}
theorem Ok.some {r : α} (h : P r) : Ok (some r) P := ⟨r, rfl, h⟩
theorem Ok.mono {x : Option α} (h : Ok x P) (hq : ∀ r, P r → Q r) : Ok x Q := let ⟨r, h1, h2⟩ := h; ⟨r, h1, hq r h2⟩
theorem Ok.bind {x : Option α} {f : α → Option β} (h : Ok x P) (hf : ∀ r, P r → Ok (f r) R) : Ok (x.bind f) R := by
  obtain ⟨r, rfl, hr⟩ := h
  exact hf r hr
theorem Ok.cond {b : Bool} {x y : Option α} (ht : b = true → Ok x P) (hf : b = false → Ok y P) : Ok (cond b x y) P := by
  cases b
  · exact hf rfl
  · exact ht rfl
theorem Ok.gd {b : Bool} {x : Option α} (hb : b = true) (h : Ok x P) : Ok (gd b x) P := by
  subst hb; exact h
theorem Ok.eq {x : Option α} {r : α} (h : Ok x fun y => y = r) : x = Option.some r := by
  obtain ⟨y, h1, h2⟩ := h
  rw [h1, h2]
theorem Ok.of_eq {x : Option α} {r : α} (h : x = Option.some r) (hp : P r) : Ok x P := ⟨r, h, hp⟩

theorem loop_ok {f : σ → Option (σ ⊕ ρ)} {Q : ρ → Prop} (I : σ → Prop) (μ : σ → Nat)
    (step : ∀ s, I s → Ok (f s) fun x => match x with | .inl s' => I s' ∧ μ s' < μ s | .inr r => Q r) {s : σ} (h : I s) : Ok (loopO f s) Q := by
  generalize hn : μ s = n
  induction n using Nat.strongRecOn generalizing s with
  | _ n ih =>
    obtain ⟨x, h1, h2⟩ := step s h
    cases x with
    | inl s' =>
      obtain ⟨h3, h4⟩ := h2
      obtain ⟨r, h5, h6⟩ := ih (μ s') (by omega) h3 rfl
      refine ⟨r, ?_, h6⟩
      rw [loopO_eq, h1]
      exact h5
    | inr r =>
      refine ⟨r, ?_, h2⟩
      rw [loopO_eq, h1]
      rfl

theorem at_lt {l : List α} {n : Int} (h : 0 ≤ n) (h2 : n < l.length) : at? l n = Option.some (l[n.toNat]'(by omega)) := by
  unfold at?
  rw [if_pos h, List.getElem?_eq_getElem]
theorem at_nat {l : List α} {n : Nat} (h : n < l.length) : at? l (n : Int) = Option.some l[n] := by
  rw [at_lt (by omega) (by omega)]
  simp
theorem at_ok {l : List α} {n : Int} (h : 0 ≤ n) (h2 : n < l.length) : Ok (at? l n) (fun y => l[n.toNat]? = Option.some y) := by
  refine ⟨_, at_lt h h2, ?_⟩
  rw [List.getElem?_eq_getElem]
theorem at_mem {l : List α} {n : Int} (h : 0 ≤ n) (h2 : n < l.length) : Ok (at? l n) (fun y => y ∈ l) := by
  refine (at_ok h h2).mono fun y hy => List.mem_of_getElem? hy
end

/-! ### Integers of 64 bits -/
def I64 (n : Int) : Prop := -9223372036854775808 ≤ n ∧ n ≤ 9223372036854775807
theorem wrap64 {n : Int} (h : -9223372036854775808 ≤ n) (h2 : n ≤ 9223372036854775807) : IntKind.wrap .i64 n = n := by
  unfold IntKind.wrap
  simp [IntKind.min, IntKind.max, IntKind.bits, IntKind.signed]
  omega
theorem tmod_nonneg {a b : Int} (h : 0 ≤ a) : 0 ≤ a.tmod b := Int.tmod_nonneg b h
theorem tmod_lt' {a b : Int} (h : 0 < b) : a.tmod b < b := Int.tmod_lt_of_pos a h
theorem lim_eq : LIM = 137438953472 := by decide
theorem ble_lim {n : Nat} (h : n ≤ 137438953472) : Nat.ble n LIM = true := by rw [Nat.ble_eq, lim_eq]; exact h
end Go.Eng

/-
The streams.
-/
namespace Go.Eng
open Go
set_option linter.unusedVariables false
set_option linter.unusedSimpArgs false

theorem wrap_I64 (n : Int) : I64 (IntKind.wrap .i64 n) := by
  unfold IntKind.wrap I64
  simp [IntKind.bits, IntKind.signed]
  split <;> omega

theorem Below_eq {x n : Int} (hx : I64 x) (hn : I64 n) : fleetmake_Below x n = some (if n < 1 then 0 else x % n) := by
  unfold I64 at hx hn
  unfold fleetmake_Below fleetmake_Below_x1
  by_cases h : n < 1
  · simp [h]
  · have h0 : (n == 0) = false := by simp; omega
    have e := Int.emod_eq_tmod (a := x) (b := n)
    have nn := Int.emod_nonneg x (show n ≠ 0 by omega)
    have lt := Int.emod_lt_of_pos x (show 0 < n by omega)
    simp only [h, decide_false, cond_false, h0, Bool.not_false, gd, cond_true, Option.bind_some, if_false]
    by_cases h3 : x.tmod n < 0
    · simp only [h3, decide_true, cond_true, Option.bind_some]
      split at e
      · omega
      · rw [wrap64 (by omega) (by omega)]
        congr 1
        omega
    · simp only [h3, decide_false, cond_false, Option.bind_some]
      congr 1
      split at e <;> omega
theorem Below_ok {x n : Int} (hx : I64 x) (hn : I64 n) : Ok (fleetmake_Below x n) (fun r => (1 ≤ n → 0 ≤ r ∧ r < n) ∧ (n < 1 → r = 0)) := by
  refine .of_eq (Below_eq hx hn) ⟨fun h => ?_, fun h => by simp [h]⟩
  rw [if_neg (by omega)]
  exact ⟨Int.emod_nonneg _ (by omega), Int.emod_lt_of_pos _ (by omega)⟩

/-- A stream whose numbers are of 64 bits, of which at most k were taken. -/
def StrOk (k : Nat) (s : fleetmake_Stream) : Prop := 0 ≤ s.at_ ∧ s.at_ ≤ k ∧ s.L.length ≤ 9223372036854775807 ∧ ∀ n ∈ s.L, I64 n
theorem StrOk.mono {k k' : Nat} {s : fleetmake_Stream} (h : StrOk k s) (hk : k ≤ k') : StrOk k' s := ⟨h.1, by have := h.2.1; omega, h.2.2⟩
/-- One number further. -/
abbrev nxt (s : fleetmake_Stream) : fleetmake_Stream := fleetmake_Stream.mk s.L (IntKind.wrap .i64 (s.at_ + 1))
theorem StrOk.nxt {k : Nat} {s : fleetmake_Stream} (h : StrOk k s) (hk : k < 1099511627776) : StrOk (k + 1) (nxt s) := by
  obtain ⟨h1, h2, h3, h4⟩ := h
  refine ⟨?_, ?_, h3, h4⟩
  · show 0 ≤ IntKind.wrap .i64 (s.at_ + 1)
    rw [wrap64 (by omega) (by omega)]; omega
  · show IntKind.wrap .i64 (s.at_ + 1) ≤ _
    rw [wrap64 (by omega) (by omega)]; omega

theorem Next_ok {k : Nat} {s : fleetmake_Stream} {n : Int} (h : StrOk k s) (hk : k < 1099511627776) (hn : I64 n) : Ok (fleetmake_Stream_Next s n) (fun r => (1 ≤ n → 0 ≤ r ∧ r < n) ∧ (n < 1 → r = 0)) := by
  obtain ⟨h1, h2, h3, h4⟩ := h
  unfold fleetmake_Stream_Next
  refine .cond (fun _ => ?_) (fun hl => ?_)
  · exact (Below_ok (wrap_I64 _) hn).bind fun r hr => .some hr
  · have hl' : s.L.length ≠ 0 := by simpa using hl
    have e1 : IntKind.wrap .i64 (s.at_ + 1) = s.at_ + 1 := wrap64 (by omega) (by omega)
    have e2 : IntKind.wrap .i64 (s.at_ + 1 - 1) = s.at_ := by rw [wrap64 (by omega) (by omega)]; omega
    refine .gd (by simpa using hl') ?_
    rw [e1, e2]
    refine (at_mem (tmod_nonneg h1) (tmod_lt' (by omega))).bind fun y hy => ?_
    refine (Below_ok (h4 y hy) (by unfold I64; omega)).bind fun r1 hr1 => ?_
    exact (Below_ok (wrap_I64 _) hn).bind fun r hr => .some hr

theorem Pick_ok {k : Nat} {s : fleetmake_Stream} {l : List Int} (h : StrOk k s) (hk : k < 1099511627776) (hl : 0 < l.length) (hl2 : l.length < 1000) : Ok (fleetmake_Stream_Pick_o1 s l) (fun r => r ∈ l) := by
  unfold fleetmake_Stream_Pick_o1
  refine (Next_ok h hk (by unfold I64; omega)).bind fun r hr => ?_
  have := hr.1 (by omega)
  exact (at_mem this.1 this.2).bind fun y hy => .some hy
theorem Range_ok {k : Nat} {s : fleetmake_Stream} {low high : Int} (h : StrOk k s) (hk : k < 1099511627776) (hlow : -4611686018427387903 < low ∧ low < 4611686018427387904) (hh : -4611686018427387904 < high ∧ high < 4611686018427387903) :
    Ok (fleetmake_Stream_Range s low high) (fun r => StrOk (k + 1) r.1 ∧ low ≤ r.2 ∧ (low ≤ high → r.2 ≤ high) ∧ (high < low → r.2 = low)) := by
  unfold fleetmake_Stream_Range
  refine .cond (fun hc => ?_) (fun hc => ?_)
  · have hc' : high < low := by simpa using hc
    exact .some ⟨h.mono (by omega), Int.le_refl _, by intro h; omega, fun _ => rfl⟩
  · have hc' : ¬ high < low := by simpa using hc
    have e1 : IntKind.wrap .i64 (high - low) = high - low := wrap64 (by omega) (by omega)
    have e2 : IntKind.wrap .i64 (high - low + 1) = high - low + 1 := wrap64 (by omega) (by omega)
    rw [e1, e2]
    refine (Next_ok h hk (by unfold I64; omega)).bind fun r hr => ?_
    have := hr.1 (by omega)
    refine .some ⟨h.nxt hk, ?_, fun _ => ?_, fun h => by omega⟩
    · show low ≤ IntKind.wrap .i64 (low + r)
      rw [wrap64 (by omega) (by omega)]; omega
    · show IntKind.wrap .i64 (low + r) ≤ high
      rw [wrap64 (by omega) (by omega)]; omega
end Go.Eng

/-
Loops over the elements of a list; keys.
-/
namespace Go.Eng
open Go
set_option linter.unusedVariables false
set_option linter.unusedSimpArgs false

/-- The first answer of the elements from number k on. -/
def scan {α ρ : Type} (g : Nat → α → Option ρ) : Nat → List α → Option ρ
  | _, [] => none
  | k, x :: xs => match g k x with
    | some r => some r
    | none => scan g (k + 1) xs

theorem drop_get {α : Type} {l : List α} {i : Nat} (h : i < l.length) : l.drop i = l[i] :: l.drop (i + 1) := List.drop_eq_getElem_cons h

/-- A loop over a list that ends at the first element with an answer. -/
theorem range_loop {α ρ : Type} {l : List α} {f : Int → Option (Int ⊕ ρ)} (g : Nat → α → Option ρ) (done : ρ) (hl : (l.length : Int) ≤ 9223372036854775807)
    (hf : ∀ (i : Nat) (h : i < l.length), f i = some (match g i l[i] with | none => .inl (IntKind.wrap .i64 (i + 1)) | some r => .inr r)) (hd : f l.length = some (.inr done)) :
    loopO f 0 = some ((scan g 0 l).getD done) := by
  have key : ∀ (n i : Nat), l.length - i = n → i ≤ l.length → loopO f i = some ((scan g i (l.drop i)).getD done) := by
    intro n
    induction n with
    | zero =>
      intro i h1 h2
      have : i = l.length := by omega
      subst this
      rw [loopO_eq, hd, List.drop_length]
      rfl
    | succ n ih =>
      intro i h1 h2
      have hi : i < l.length := by omega
      rw [loopO_eq, hf i hi, drop_get hi]
      simp only [scan]
      cases hg : g i l[i] with
      | some r => rfl
      | none =>
        simp only [Option.bind_some]
        rw [wrap64 (by omega) (by omega)]
        exact ih (i + 1) (by omega) (by omega)
  exact key l.length 0 (by omega) (by omega)

theorem scan_none {α ρ : Type} {g : Nat → α → Option ρ} : ∀ {l : List α} {k : Nat}, scan g k l = none ↔ ∀ (i : Nat) (x : α), l[i]? = some x → g (k + i) x = none
  | [], k => by simp [scan]
  | y :: l, k => by
    simp only [scan]
    cases hg : g k y with
    | some r =>
      simp only [reduceCtorEq, false_iff]
      intro h
      have := h 0 y rfl
      rw [Nat.add_zero, hg] at this
      cases this
    | none =>
      simp only
      rw [scan_none]
      constructor
      · intro h i x hi
        cases i with
        | zero => simp at hi; subst hi; exact hg
        | succ i => rw [show k + (i + 1) = k + 1 + i by omega]; exact h i x (by simpa using hi)
      · intro h i x hi
        rw [show k + 1 + i = k + (i + 1) by omega]
        exact h (i + 1) x (by simpa using hi)
theorem scan_congr {α ρ : Type} {g g' : Nat → α → Option ρ} : ∀ {l : List α} {k : Nat}, (∀ (i : Nat) (x : α), l[i]? = some x → g (k + i) x = g' (k + i) x) → scan g k l = scan g' k l
  | [], _, _ => rfl
  | y :: l, k, h => by
    simp only [scan]
    have h0 := h 0 y rfl
    rw [Nat.add_zero] at h0
    rw [h0]
    cases g' k y with
    | some r => rfl
    | none =>
      refine scan_congr (l := l) (k := k + 1) fun i x hi => ?_
      have := h (i + 1) x (by simpa using hi)
      rw [show k + (i + 1) = k + 1 + i by omega] at this
      exact this
theorem scan_all {α : Type} {p : α → Bool} {b : Bool} : ∀ {l : List α} {k : Nat}, (scan (fun _ x => cond (p x) none (some b)) k l).getD (!b) = cond (l.all p) (!b) b
  | [], _ => by simp [scan]
  | y :: l, k => by
    simp only [scan, List.all_cons]
    cases p y with
    | true => simp only [Bool.true_and, cond_true]; exact scan_all (l := l)
    | false => simp

/-! ### Keys -/
def keyC (c : UInt8) : Bool := (97 ≤ c.toNat && c.toNat ≤ 122) || (48 ≤ c.toNat && c.toNat ≤ 57) || c.toNat == 45 || c.toNat == 95
def keyB (s : List UInt8) : Bool := match s with
  | [] => false
  | c :: l => decide (l.length < 40) && (97 ≤ c.toNat && c.toNat ≤ 122) && (c :: l).all keyC

theorem u8_lt (c : UInt8) : c.toNat < 256 := c.toNat_lt

theorem u8_all {p : UInt8 → Bool} (h : ((List.range 256).all fun n => p (UInt8.ofNat n)) = true) (c : UInt8) : p c = true := by
  have := List.all_eq_true.1 h c.toNat (List.mem_range.2 (u8_lt c))
  simpa using this
theorem Key_x3 (c : UInt8) : base_Key_x3 c = some (!keyC c) := by
  have := u8_all (p := fun c => decide (base_Key_x3 c = some (!keyC c))) (by decide +kernel) c
  simpa using this
theorem Key_x2 (s : List UInt8) (hs : (s.length : Int) ≤ 9223372036854775807) : loopO (base_Key_x2 s) 0 = some (cond (s.all keyC) (.inl ()) (.inr ())) := by
  rw [range_loop (l := s) (fun _ c => cond (keyC c) none (some (.inr ()))) (.inl ()) hs]
  · congr 1
    generalize 0 = k
    induction s generalizing k with
    | nil => rfl
    | cons c s ih =>
      simp only [scan, List.all_cons]
      cases keyC c with
      | true => simp only [cond_true, Bool.true_and]; exact ih (by simp at hs; omega) (k + 1)
      | false => rfl
  · intro i hi
    unfold base_Key_x2
    rw [at_nat hi]
    have : ((i : Int) < s.length) := by omega
    simp only [this, decide_true, cond_true, Option.bind_some, Key_x3]
    cases keyC s[i] <;> rfl
  · unfold base_Key_x2
    simp
theorem Key_eq (s : List UInt8) (hs : (s.length : Int) ≤ 9223372036854775807) : base_Key s = some (keyB s) := by
  unfold base_Key base_Key_x1
  cases s with
  | nil => simp [keyB]
  | cons c l =>
    rw [Key_x2 _ hs]
    have h0 : at? (c :: l) 0 = some c := rfl
    simp only [reduceCtorEq, decide_false, cond_false, h0, Option.bind_some]
    unfold keyB
    have h40 : ((40 : Int) < ((c :: l).length : Int)) ↔ ¬ l.length < 40 := by simp; omega
    by_cases h1 : l.length < 40
    · have h1' : ¬ ((40 : Int) < ((c :: l).length : Int)) := by rw [h40]; simpa using h1
      simp only [h1', decide_false, cond_false, h1, decide_true, Bool.true_and]
      by_cases h2 : (c.toNat : Int) < 97
      · have : ¬ 97 ≤ c.toNat := by omega
        simp [h2, this]
      · by_cases h3 : (122 : Int) < c.toNat
        · have : ¬ c.toNat ≤ 122 := by omega
          simp [h2, h3, this]
        · have g1 : 97 ≤ c.toNat := by omega
          have g2 : c.toNat ≤ 122 := by omega
          simp only [h2, decide_false, cond_false, h3, Option.bind_some, g1, g2, decide_true, Bool.and_self, Bool.true_and]
          cases (c :: l).all keyC <;> rfl
    · have h1' : ((40 : Int) < ((c :: l).length : Int)) := by rw [h40]; exact h1
      simp only [h1', h1, decide_true, decide_false, cond_true, Option.bind_some, Bool.false_and]
end Go.Eng

/-
Small checks; the order of measurements.
-/
namespace Go.Eng
open Go
set_option linter.unusedVariables false
set_option linter.unusedSimpArgs false

theorem Out_eq (n low high : Int) : base_Out n low high = some (decide (n < low) || decide (high < n)) := by
  unfold base_Out base_Out_x1
  by_cases h : n < low <;> simp [h]
theorem Moment_eq (n : Int) : base_Moment n = some (decide (0 ≤ n) && decide (n ≤ 345686399999)) := by
  unfold base_Moment
  rw [Out_eq]
  simp only [Option.bind_some]
  congr 1
  rw [Bool.eq_iff_iff]
  simp
theorem indexByte_neg (l : List UInt8) (c : UInt8) : decide (Lib.indexByte l c < 0) = !l.contains c := by
  induction l with
  | nil => rfl
  | cons b l ih =>
    have hge := Lib.indexByte_ge l c
    unfold Lib.indexByte
    rw [List.contains_cons]
    by_cases hb : (b == c) = true
    · have : (c == b) = true := by rw [BEq.comm]; exact hb
      simp [hb, this]
    · have hb' : (b == c) = false := by simpa using hb
      have : (c == b) = false := by rw [BEq.comm]; exact hb'
      simp only [hb', Bool.false_eq_true, if_false, this, Bool.false_or]
      rw [← ih]
      by_cases h1 : Lib.indexByte l c = -1
      · simp [h1]
      · have : (Lib.indexByte l c == -1) = false := by simpa using h1
        simp only [this, Bool.false_eq_true, if_false]
        congr 1
        simp
        omega
theorem small_contains (c : UInt8) : ([97, 98, 99, 100, 101, 102, 103, 104, 105, 106, 107, 108, 109, 110, 111, 112, 113, 114, 115, 116, 117, 118, 119, 120, 121, 122] : List UInt8).contains c = (decide (97 ≤ c.toNat) && decide (c.toNat ≤ 122)) := by
  have := u8_all (p := fun c => ([97, 98, 99, 100, 101, 102, 103, 104, 105, 106, 107, 108, 109, 110, 111, 112, 113, 114, 115, 116, 117, 118, 119, 120, 121, 122] : List UInt8).contains c == (decide (97 ≤ c.toNat) && decide (c.toNat ≤ 122))) (by decide +kernel) c
  exact eq_of_beq this
theorem key_contains (c : UInt8) : ([97, 98, 99, 100, 101, 102, 103, 104, 105, 106, 107, 108, 109, 110, 111, 112, 113, 114, 115, 116, 117, 118, 119, 120, 121, 122, 48, 49, 50, 51, 52, 53, 54, 55, 56, 57, 45, 95] : List UInt8).contains c = keyC c := by
  have := u8_all (p := fun c => ([97, 98, 99, 100, 101, 102, 103, 104, 105, 106, 107, 108, 109, 110, 111, 112, 113, 114, 115, 116, 117, 118, 119, 120, 121, 122, 48, 49, 50, 51, 52, 53, 54, 55, 56, 57, 45, 95] : List UInt8).contains c == keyC c) (by decide +kernel) c
  exact eq_of_beq this

/-! ### Orders -/
def cmpI (a b : Int) : Int := if a < b then -1 else if b < a then 1 else 0
def or0 (a b : Int) : Int := if a = 0 then b else a
def sOrd (a b : api_Sample) : Int := or0 (Lib.compareBytes a.Device b.Device) (or0 (Lib.compareBytes a.Metric b.Metric) (cmpI a.At b.At))

theorem cmpB_self : ∀ a : List UInt8, Lib.compareBytes a a = 0
  | [] => rfl
  | x :: a => by
    unfold Lib.compareBytes
    simp [UInt8.lt_irrefl, cmpB_self a]
theorem cmpB_anti : ∀ a b : List UInt8, Lib.compareBytes b a = -Lib.compareBytes a b
  | [], [] => rfl
  | [], _ :: _ => rfl
  | _ :: _, [] => rfl
  | x :: a, y :: b => by
    unfold Lib.compareBytes
    by_cases h1 : x < y
    · have h2 : ¬ y < x := UInt8.lt_asymm h1
      simp [h1, h2]
    · by_cases h2 : y < x
      · simp [h1, h2]
      · simp [h1, h2, cmpB_anti a b]
theorem cmpB_zero : ∀ {a b : List UInt8}, Lib.compareBytes a b = 0 ↔ a = b
  | [], [] => by simp [Lib.compareBytes]
  | [], _ :: _ => by simp [Lib.compareBytes]
  | _ :: _, [] => by simp [Lib.compareBytes]
  | x :: a, y :: b => by
    unfold Lib.compareBytes
    by_cases h1 : x < y
    · have : x ≠ y := fun h => UInt8.lt_irrefl y (h ▸ h1)
      simp [h1, this]
    · by_cases h2 : y < x
      · have : x ≠ y := fun h => UInt8.lt_irrefl x (by rw [h] at h2 ⊢; exact h2)
        simp [h1, h2, this]
      · have : x = y := UInt8.le_antisymm (UInt8.not_lt.1 h2) (UInt8.not_lt.1 h1)
        simp [h1, h2, cmpB_zero (a := a) (b := b), this]
theorem cmpB_less : ∀ a b : List UInt8, Op.bytesLess a b = decide (Lib.compareBytes a b < 0)
  | [], [] => rfl
  | [], _ :: _ => rfl
  | _ :: _, [] => rfl
  | x :: a, y :: b => by
    unfold Lib.compareBytes
    rw [Op.bytesLess]
    by_cases h1 : x < y
    · simp [h1]
    · by_cases h2 : y < x
      · have h3 : ¬ x = y := fun h => UInt8.lt_irrefl x (by rw [h] at h2 ⊢; exact h2)
        simp [h1, h2, h3]
      · have h3 : x = y := UInt8.le_antisymm (UInt8.not_lt.1 h2) (UInt8.not_lt.1 h1)
        simp [h1, h2, h3, cmpB_less a b]
theorem cmpI_anti (a b : Int) : cmpI b a = -cmpI a b := by unfold cmpI; split <;> split <;> first | omega | (split <;> omega) | rfl
theorem or0_neg (a b : Int) : or0 (-a) (-b) = -or0 a b := by unfold or0; split <;> split <;> omega
theorem sOrd_anti (a b : api_Sample) : sOrd b a = -sOrd a b := by
  unfold sOrd
  rw [cmpB_anti a.Device b.Device, cmpB_anti a.Metric b.Metric, cmpI_anti a.At b.At, or0_neg, or0_neg]
end Go.Eng

/-
Checks of measurements and series, both ways.
-/
namespace Go.Eng
open Go
set_option linter.unusedVariables false
set_option linter.unusedSimpArgs false

theorem cmpB_range : ∀ a b : List UInt8, Lib.compareBytes a b = -1 ∨ Lib.compareBytes a b = 0 ∨ Lib.compareBytes a b = 1
  | [], [] => by simp [Lib.compareBytes]
  | [], _ :: _ => by simp [Lib.compareBytes]
  | _ :: _, [] => by simp [Lib.compareBytes]
  | x :: a, y :: b => by
    unfold Lib.compareBytes
    split
    · simp
    · split
      · simp
      · exact cmpB_range a b

theorem cmpInt_eq (a b : Int) : cmp_Compare_int a b = some (cmpI a b) := by
  unfold cmp_Compare_int cmp_isNaN_int cmpI
  by_cases h1 : a < b
  · simp [h1]
  · by_cases h2 : b < a <;> simp [h1, h2]
theorem Or_eq (l : List Int) (hl : (l.length : Int) ≤ 9223372036854775807) : cmp_Or_int l = some ((l.find? fun x => !decide (x = 0)).getD 0) := by
  unfold cmp_Or_int
  rw [range_loop (l := l) (fun _ x => cond (!decide (x = 0)) (some (.inr x)) none) (.inl ()) hl]
  · simp only [Option.bind_some]
    generalize 0 = k
    induction l generalizing k with
    | nil => rfl
    | cons c s ih =>
      simp only [scan, List.find?_cons]
      by_cases hc : c = 0
      · simp only [hc, decide_true, Bool.not_true, cond_false]
        exact ih (by simp at hl; omega) (k + 1)
      · simp [hc]
  · intro i hi
    unfold cmp_Or_int_x1
    rw [at_nat hi]
    have : ((i : Int) < l.length) := by omega
    simp only [this, decide_true, cond_true, Option.bind_some]
    cases (!decide (l[i] = 0)) <;> rfl
  · unfold cmp_Or_int_x1
    simp
theorem byDevice_eq (a b : api_Sample) : series_byDevice a b = some (sOrd a b) := by
  unfold series_byDevice strings_Compare bytealg_CompareString
  rw [cmpInt_eq]
  simp only [Option.bind_some]
  rw [Or_eq _ (by simp)]
  simp only [Option.bind_some]
  congr 1
  unfold sOrd or0
  by_cases h1 : Lib.compareBytes a.Device b.Device = 0 <;> by_cases h2 : Lib.compareBytes a.Metric b.Metric = 0 <;> by_cases h3 : cmpI a.At b.At = 0 <;> simp [List.find?_cons, h1, h2, h3]

/-! ### Check -/
/-- Measurements as streams make them: nothing so long or great that a computation runs over. -/
def SBnd (l : List api_Sample) : Prop := ∀ x ∈ l, (x.Device.length : Int) ≤ 1000 ∧ (x.Metric.length : Int) ≤ 1000 ∧ (-2199023255552 ≤ x.At ∧ x.At ≤ 2199023255552) ∧ (-2199023255552 ≤ x.Value ∧ x.Value ≤ 2199023255552)

def smpB (x : api_Sample) : Option Int :=
  if !(keyB x.Device && keyB x.Metric) then some 5 else if !((decide (0 ≤ x.At) && decide (x.At ≤ 345686399999)) && (decide (-1000000000 ≤ x.Value) && decide (x.Value ≤ 1000000000))) then some 1 else none
/-- What is wrong with the measurement of number i. -/
def chkG (l : List api_Sample) (i : Nat) (x : api_Sample) : Option Int :=
  match smpB x with
  | some e => some e
  | none => match i with
    | 0 => none
    | j + 1 => match l[j]? with
      | some y => if sOrd x y ≤ 0 then some 7 else none
      | none => none
def checkV (l : List api_Sample) : Int := if 5000 < l.length then 2 else (scan (chkG l) 0 l).getD 0

theorem Check_eq {l : List api_Sample} (hb : SBnd l) (hl : (l.length : Int) ≤ 9223372036854775807) : series_Check l = some (checkV l) := by
  unfold series_Check checkV
  by_cases h5 : 5000 < l.length
  · have : (5000 : Int) < l.length := by omega
    simp [this, h5]
  have h5' : ¬ (5000 : Int) < l.length := by omega
  simp only [h5', decide_false, cond_false, h5, if_false]
  rw [range_loop (l := l) (fun i x => (chkG l i x).map .inr) (.inl ()) hl]
  · simp only [Option.bind_some]
    generalize chkG l = g
    generalize 0 = k
    clear hb hl h5 h5'
    induction l generalizing k with
    | nil => rfl
    | cons c s ih =>
      simp only [scan]
      cases g k c with
      | none => exact ih (k + 1)
      | some r => rfl
  · intro i hi
    obtain ⟨b1, b2, b3, b4⟩ := hb l[i] (List.getElem_mem hi)
    unfold series_Check_x1
    rw [at_nat hi]
    have h0 : ((i : Int) < l.length) := by omega
    simp only [h0, decide_true, cond_true, Option.bind_some]
    unfold series_Check_x2 series_Check_x3 chkG smpB
    rw [Key_eq _ (by omega), Key_eq _ (by omega), Moment_eq, Out_eq]
    simp only [Option.bind_some]
    cases hk1 : keyB l[i].Device
    · simp
    cases hk2 : keyB l[i].Metric
    · simp
    simp only [Bool.not_true, cond_false, Option.bind_some, Bool.and_self, Bool.false_eq_true, if_false]
    by_cases hm : 0 ≤ l[i].At ∧ l[i].At ≤ 345686399999
    · by_cases hv : -1000000000 ≤ l[i].Value ∧ l[i].Value ≤ 1000000000
      · have v1 : ¬ l[i].Value < -1000000000 := by omega
        have v2 : ¬ (1000000000 : Int) < l[i].Value := by omega
        simp only [hm.1, hm.2, hv.1, hv.2, v1, v2, decide_true, decide_false, Bool.and_self, Bool.not_true, cond_false, Option.bind_some, Bool.or_self, Bool.false_eq_true, if_false]
        unfold series_Check_x4
        cases i with
        | zero => simp
        | succ j =>
          have e1 : IntKind.wrap .i64 (((j + 1 : Nat) : Int) - 1) = (j : Int) := by rw [wrap64 (by omega) (by omega)]; omega
          have hj : j < l.length := by omega
          have hp : (0 : Int) < ((j + 1 : Nat) : Int) := by omega
          simp only [hp, decide_true, cond_true, e1, at_nat hj, Option.bind_some, byDevice_eq, List.getElem?_eq_getElem hj]
          by_cases hc : sOrd l[j + 1] l[j] ≤ 0 <;> simp [hc]
      · have : (decide (-1000000000 ≤ l[i].Value) && decide (l[i].Value ≤ 1000000000)) = false := by simpa using hv
        have v : (decide (l[i].Value < -1000000000) || decide ((1000000000 : Int) < l[i].Value)) = true := by simp; omega
        simp [hm.1, hm.2, this, v]
    · have : (decide (0 ≤ l[i].At) && decide (l[i].At ≤ 345686399999)) = false := by simpa using hm
      simp [this]
  · unfold series_Check_x1
    simp

end Go.Eng

/-
Series and windows; faults.
-/
namespace Go.Eng
open Go
set_option linter.unusedVariables false
set_option linter.unusedSimpArgs false

def diffB (x y : api_Sample) : Bool := !decide (x.Device = y.Device) || !decide (x.Metric = y.Metric)
def anyDiff : List api_Sample → Bool
  | [] => false
  | y :: l => (y :: l).any fun x => diffB x y
def seriesV (l : List api_Sample) : Int := if checkV l ≠ 0 then checkV l else cond (anyDiff l) 13 0

theorem clo1_eq (s y : api_Sample) (l : List api_Sample) : series_CheckSeries_1 s (y :: l) = some (diffB s y) := by
  unfold series_CheckSeries_1 series_CheckSeries_1_x1 diffB
  have h0 : at? (y :: l) 0 = some y := rfl
  simp only [h0, Option.bind_some]
  by_cases h : s.Device = y.Device <;> simp [h]
theorem scan_find {α : Type} {p : α → Bool} : ∀ {l : List α} {k : Nat}, ∃ r : Int, (match (scan (fun i x => cond (p x) (some (Sum.inr (i : Int) : Unit ⊕ Int)) none) k l).getD (.inl ()) with | .inl _ => (-1 : Int) | .inr v => v) = r ∧ decide (0 ≤ r) = l.any p
  | [], k => ⟨-1, rfl, rfl⟩
  | x :: l, k => by
    simp only [scan, List.any_cons]
    cases p x with
    | true => exact ⟨k, rfl, by simp⟩
    | false => simp only [cond_false, Bool.false_or]; exact scan_find (l := l) (k := k + 1)

theorem has1_eq (l : List api_Sample) (hl : (l.length : Int) ≤ 9223372036854775807) : slices_ContainsFunc_api_Sample_api_Sample_f1_series_CheckSeries_1 l = some (anyDiff l) := by
  unfold slices_ContainsFunc_api_Sample_api_Sample_f1_series_CheckSeries_1 slices_IndexFunc_api_Sample_api_Sample_f1_series_CheckSeries_1
  cases l with
  | nil =>
    rw [range_loop (l := ([] : List api_Sample)) (fun i x => none) (.inl ()) (by simp)]
    · rfl
    · intro i hi; simp at hi
    · unfold slices_IndexFunc_api_Sample_api_Sample_f1_series_CheckSeries_1_x1; simp
  | cons y l =>
    rw [range_loop (l := y :: l) (fun i x => cond (diffB x y) (some (.inr (i : Int))) none) (.inl ()) hl]
    · obtain ⟨r, h1, h2⟩ := scan_find (p := fun x => diffB x y) (l := y :: l) (k := 0)
      simp only [Option.bind_some, anyDiff]
      rw [← h2, ← h1]
      cases (scan (fun i x => cond (diffB x y) (some (Sum.inr (i : Int) : Unit ⊕ Int)) none) 0 (y :: l)).getD (.inl ()) <;> rfl
    · intro i hi
      unfold slices_IndexFunc_api_Sample_api_Sample_f1_series_CheckSeries_1_x1
      rw [at_nat hi]
      have : ((i : Int) < (y :: l).length) := by omega
      simp only [this, decide_true, cond_true, Option.bind_some, clo1_eq]
      cases diffB (y :: l)[i] y <;> rfl
    · unfold slices_IndexFunc_api_Sample_api_Sample_f1_series_CheckSeries_1_x1
      simp
theorem CheckSeries_eq {l : List api_Sample} (hb : SBnd l) (hl : (l.length : Int) ≤ 9223372036854775807) : series_CheckSeries l = some (seriesV l) := by
  unfold series_CheckSeries seriesV
  rw [Check_eq hb hl, has1_eq l hl]
  simp only [Option.bind_some]
  by_cases h : checkV l = 0
  · simp only [h, decide_true, Bool.not_true, cond_false, ne_eq, not_true_eq_false, if_false]
    cases anyDiff l <;> rfl
  · simp [h]
def windowB (w : api_Window) : Bool := (decide (0 ≤ w.From) && decide (w.From ≤ w.To)) && decide (w.To ≤ 345686400000)
theorem Window_eq (w : api_Window) : base_Window w = some (windowB w) := by
  unfold base_Window base_Window_x1 windowB
  rw [Out_eq]
  have e : (decide (w.From < 0) || decide (w.To < w.From)) = !(decide (0 ≤ w.From) && decide (w.From ≤ w.To)) := by rw [Bool.eq_iff_iff]; simp
  rw [e]
  simp only [Option.bind_some]
  cases (decide (0 ≤ w.From) && decide (w.From ≤ w.To)) <;> rfl
theorem fault_eq {l : List api_Sample} (w : api_Window) (hb : SBnd l) (hl : (l.length : Int) ≤ 9223372036854775807) : series_fault l w = some (or0 (seriesV l) (cond (windowB w) 0 1)) := by
  unfold series_fault series_fault_x1 series_fault_x2
  rw [CheckSeries_eq hb hl, Window_eq]
  simp only [Option.bind_some]
  unfold or0
  by_cases h : seriesV l = 0
  · simp only [h, decide_true, cond_true, Option.bind_some, if_true]
    cases windowB w <;> rfl
  · simp [h]
end Go.Eng

/-
Fill and FillOf answer the same for a right series.
-/
namespace Go.Eng
open Go
set_option linter.unusedVariables false
set_option linter.unusedSimpArgs false

theorem scan_some {α ρ : Type} {g : Nat → α → Option ρ} : ∀ {l : List α} {k : Nat} {r : ρ}, scan g k l = some r → ∃ i x, l[i]? = some x ∧ g (k + i) x = some r
  | [], _, _, h => by cases h
  | y :: l, k, r, h => by
    simp only [scan] at h
    cases hg : g k y with
    | some r' => rw [hg] at h; cases h; exact ⟨0, y, rfl, by rw [Nat.add_zero]; exact hg⟩
    | none =>
      rw [hg] at h
      obtain ⟨i, x, h1, h2⟩ := scan_some h
      exact ⟨i + 1, x, by simpa using h1, by rw [← h2]; congr 1; omega⟩

theorem smpB_none {x : api_Sample} (h : smpB x = none) : (0 ≤ x.At ∧ x.At ≤ 345686399999) ∧ (-1000000000 ≤ x.Value ∧ x.Value ≤ 1000000000) := by
  unfold smpB at h
  split at h
  · cases h
  · split at h
    · cases h
    · rename_i h2
      simp at h2
      omega
theorem chkG_ne {l : List api_Sample} {i : Nat} {x : api_Sample} : chkG l i x ≠ some 0 := by
  unfold chkG smpB
  split
  · rename_i e he
    split at he
    · cases he; simp
    · split at he
      · cases he; simp
      · cases he
  · split
    · simp
    · split
      · split <;> simp
      · simp

theorem check_zero {l : List api_Sample} (h : checkV l = 0) : l.length ≤ 5000 ∧ ∀ (i : Nat) (x : api_Sample), l[i]? = some x → chkG l i x = none := by
  unfold checkV at h
  split at h
  · cases h
  · rename_i h5
    refine ⟨by omega, ?_⟩
    cases hs : scan (chkG l) 0 l with
    | some r =>
      rw [hs] at h
      have h' : r = 0 := h
      subst h'
      obtain ⟨i, x, _, h2⟩ := scan_some hs
      exact absurd h2 chkG_ne
    | none =>
      have := scan_none.1 hs
      simpa using this

/-- A right series: its moments rise. -/
structure Right (l : List api_Sample) : Prop where
  len : l.length ≤ 5000
  bnd : ∀ (i : Nat) (h : i < l.length), (0 ≤ l[i].At ∧ l[i].At ≤ 345686399999) ∧ (-1000000000 ≤ l[i].Value ∧ l[i].Value ≤ 1000000000)
  next : ∀ (i : Nat) (h : i + 1 < l.length), l[i].At < l[i + 1].At

theorem right_of {l : List api_Sample} (h : seriesV l = 0) : Right l := by
  have hc : checkV l = 0 := by
    unfold seriesV at h
    split at h
    · exact h
    · rename_i h1; simpa using h1
  have hd : anyDiff l = false := by
    unfold seriesV at h
    rw [if_neg (by simp [hc])] at h
    cases ha : anyDiff l with
    | false => rfl
    | true => rw [ha] at h; cases h
  obtain ⟨h1, h2⟩ := check_zero hc
  have hs : ∀ (i : Nat) (h : i < l.length), smpB l[i] = none := fun i hi => by
    have := h2 i _ (List.getElem?_eq_getElem hi)
    unfold chkG at this
    split at this
    · cases this
    · assumption
  have same : ∀ x ∈ l, ∀ y ∈ l, x.Device = y.Device ∧ x.Metric = y.Metric := by
    cases l with
    | nil => intro x hx; cases hx
    | cons y l =>
      unfold anyDiff at hd
      rw [List.any_eq_false] at hd
      have h0 : ∀ x ∈ y :: l, x.Device = y.Device ∧ x.Metric = y.Metric := fun x hx => by
        have := hd x hx
        simpa [diffB] using this
      intro x hx z hz
      exact ⟨(h0 x hx).1.trans (h0 z hz).1.symm, (h0 x hx).2.trans (h0 z hz).2.symm⟩
  refine ⟨h1, fun i hi => smpB_none (hs i hi), fun i hi => ?_⟩
  have h3 := h2 (i + 1) _ (List.getElem?_eq_getElem hi)
  unfold chkG at h3
  rw [hs (i + 1) hi] at h3
  simp only at h3
  rw [List.getElem?_eq_getElem (by omega : i < l.length)] at h3
  simp only at h3
  split at h3
  · cases h3
  · rename_i h4
    obtain ⟨g1, g2⟩ := same l[i + 1] (List.getElem_mem hi) l[i] (List.getElem_mem (by omega))
    unfold sOrd or0 at h4
    rw [g1, g2, cmpB_self, cmpB_self] at h4
    simp only [if_true] at h4
    unfold cmpI at h4
    split at h4
    · omega
    · split at h4 <;> omega

theorem Right.mono {l : List api_Sample} (h : Right l) : ∀ (i j : Nat) (hij : i < j) (hj : j < l.length), l[i].At < l[j].At := by
  intro i j hij
  induction j with
  | zero => omega
  | succ j ih =>
    intro hj
    have h1 := h.next j hj
    by_cases he : i = j
    · subst he; exact h1
    · have := ih (by omega) (by omega)
      omega

/-! ### The place of a moment -/
/-- k is the last place whose moment is not behind 'at'; -1: none. -/
def Place (l : List api_Sample) (t k : Int) : Prop := -1 ≤ k ∧ k < l.length ∧ (∀ (j : Nat) (h : j < l.length), (j : Int) ≤ k → l[j].At ≤ t) ∧ ∀ (j : Nat) (h : j < l.length), k < (j : Int) → t < l[j].At

/-- The first place whose moment is not ahead of 'at'. -/
def afterOf (l : List api_Sample) (t k : Int) : Int := if h : 0 ≤ k ∧ k < l.length then (if (l[k.toNat]'(by omega)).At = t then k else if k + 1 < l.length then k + 1 else -1) else if k + 1 < l.length then k + 1 else -1

end Go.Eng

/-
Fill and FillOf, whole.
-/
namespace Go.Eng
open Go
set_option linter.unusedVariables false
set_option linter.unusedSimpArgs false

/-- Two loops side by side. -/
theorem loop_sim {σ τ ρ ρ' : Type} {f : σ → Option (σ ⊕ ρ)} {g : τ → Option (τ ⊕ ρ')} (R : σ → τ → Prop) (μ : σ → Nat) (E : ρ → ρ' → Prop)
    (step : ∀ s t, R s t → (∃ s' t', f s = some (.inl s') ∧ g t = some (.inl t') ∧ R s' t' ∧ μ s' < μ s) ∨ (∃ r r', f s = some (.inr r) ∧ g t = some (.inr r') ∧ E r r')) {s : σ} {t : τ} (h : R s t) :
    ∃ r r', loopO f s = some r ∧ loopO g t = some r' ∧ E r r' := by
  generalize hn : μ s = n
  induction n using Nat.strongRecOn generalizing s t with
  | _ n ih =>
    rcases step s t h with ⟨s', t', h1, h2, h3, h4⟩ | ⟨r, r', h1, h2, h3⟩
    · obtain ⟨r, r', g1, g2, g3⟩ := ih (μ s') (by omega) h3 rfl
      refine ⟨r, r', ?_, ?_, g3⟩
      · rw [loopO_eq, h1]; exact g1
      · rw [loopO_eq, h2]; exact g2
    · refine ⟨r, r', ?_, ?_, h3⟩
      · rw [loopO_eq, h1]; rfl
      · rw [loopO_eq, h2]; rfl

end Go.Eng

/-
What streams make: series and windows.
-/
namespace Go.Eng
open Go
set_option linter.unusedVariables false
set_option linter.unusedSimpArgs false

def S1 (x : api_Sample) : Prop := (x.Device.length : Int) ≤ 1000 ∧ (x.Metric.length : Int) ≤ 1000 ∧ (-2199023255552 ≤ x.At ∧ x.At ≤ 2199023255552) ∧ (-2199023255552 ≤ x.Value ∧ x.Value ≤ 2199023255552)
theorem SBnd.set {l : List api_Sample} (h : SBnd l) {i : Nat} {x : api_Sample} (hx : S1 x) : SBnd (l.set i x) := by
  intro y hy
  rcases List.mem_or_eq_of_mem_set hy with hy | rfl
  · exact h y hy
  · exact hx
theorem SBnd.snoc {l : List api_Sample} (h : SBnd l) {x : api_Sample} (hx : S1 x) : SBnd (l ++ [x]) := by
  intro y hy
  rcases List.mem_append.1 hy with hy | hy
  · exact h y hy
  · rw [List.mem_singleton.1 hy]; exact hx
theorem SBnd.at {l : List api_Sample} (h : SBnd l) {i : Nat} {x : api_Sample} (hx : l[i]? = some x) : S1 x := h x (List.mem_of_getElem? hx)

/-- A stream behind n more numbers, and what was made of them. -/
theorem RightSeries_ok {k : Nat} {s : fleetmake_Stream} {most low : Int} (h : StrOk k s) (hk : k + 300 < 1099511627776) (hm : 0 ≤ most ∧ most ≤ 100) (hlow : -1000000000 ≤ low ∧ low ≤ 1000000000) :
    Ok (fleetmake_Stream_RightSeries s most low) (fun r => StrOk (k + 300) r.1 ∧ SBnd r.2 ∧ (r.2.length : Int) ≤ most) := by
  unfold fleetmake_Stream_RightSeries
  refine (Range_ok h (by omega) (by omega) (by omega)).bind fun ⟨s1, n⟩ ⟨g1, g2, g3, _⟩ => ?_
  have g3 := g3 (by omega)
  simp only at g1 g2 g3
  refine Ok.bind (P := fun r => StrOk (k + 300) r.1 ∧ SBnd r.2 ∧ (r.2.length : Int) ≤ most) ?_ fun ⟨s2, out⟩ h2 => .some h2
  refine loop_ok (fun q : fleetmake_Stream × List api_Sample × Int × Int => ∃ i : Nat, q.2.2.2 = i ∧ i ≤ n ∧ StrOk (k + 1 + 2 * i) q.1 ∧ q.2.1.length = i ∧ (0 ≤ q.2.2.1 ∧ q.2.2.1 ≤ 1000 * i) ∧ SBnd q.2.1) (fun q => (n - q.2.2.2).toNat) ?_ ?_
  · rintro ⟨s2, out, a, i0⟩ ⟨i, e1, e2, e3, e4, e5, e6⟩
    simp only at e1 e3 e4 e5 e6
    subst e1
    unfold fleetmake_Stream_RightSeries_x1
    refine .cond (fun hc => ?_) (fun hc => ?_)
    · have hc' : (i : Int) < n := by simpa using hc
      refine (Pick_ok e3 (by omega) (by simp) (by simp)).bind fun d hd => ?_
      refine (Pick_ok (e3.nxt (by omega)) (by omega) (by simp) (by simp)).bind fun v hv => ?_
      have hd' : 1 ≤ d ∧ d ≤ 1000 := by simp at hd; omega
      have hv' : -70 ≤ v ∧ v ≤ 1000 := by simp at hv; omega
      rw [wrap64 (n := a + d) (by omega) (by omega), wrap64 (n := (i : Int) + 1) (by omega) (by omega)]
      refine .gd (ble_lim (by simp; omega)) (.some ⟨⟨i + 1, by simp, by omega, ?_, by simp [e4], ?_, ?_⟩, ?_⟩)
      · exact ((e3.nxt (by omega)).nxt (by omega)).mono (by omega)
      · simp only; omega
      · refine e6.snoc ⟨by simp, by simp, by simp only; omega, ?_⟩
        simp only
        unfold imax
        split <;> omega
      · simp only; omega
    · have hc' : ¬ (i : Int) < n := by simpa using hc
      exact .some ⟨e3.mono (by omega), e6, by simp only; omega⟩
  · exact ⟨0, rfl, by omega, g1.mono (by omega), rfl, by simp, fun x hx => by cases hx⟩

def WBnd (w : api_Window) : Prop := (-2199023255552 ≤ w.From ∧ w.From ≤ 2199023255552) ∧ (-2199023255552 ≤ w.To ∧ w.To ≤ 2199023255552)
end Go.Eng

/-
The measured constant.
-/
namespace Go.Eng
open Go
set_option linter.unusedVariables false
set_option linter.unusedSimpArgs false

theorem eqself_loop {f : Int → Option (Int ⊕ (Unit ⊕ Unit))} {n : Nat} (hl : (n : Int) ≤ 9223372036854775807) (hf : ∀ (i : Nat), i < n → f i = some (.inl (IntKind.wrap .i64 (i + 1)))) (hd : f n = some (.inr (.inl ()))) : loopO f 0 = some (.inl ()) := by
  rw [range_loop (l := List.replicate n ()) (fun _ _ => none) (.inl ()) (by simpa using hl)]
  · rw [scan_none.2 fun _ _ _ => rfl]; rfl
  · intro i hi
    exact hf i (by simpa using hi)
  · simpa using hd

theorem EqualI_self {l : List Int} (hl : (l.length : Int) ≤ 9223372036854775807) : slices_Equal_byte_byte l l = some true := by
  unfold slices_Equal_byte_byte
  simp only [decide_true, Bool.not_true, cond_false]
  rw [range_loop (l := l) (fun _ _ => none) (.inl ()) hl]
  · simp only [Option.bind_some]
    have : scan (fun (_ : Nat) (_ : Int) => (none : Option (Unit ⊕ Unit))) 0 l = none := scan_none.2 fun _ _ _ => rfl
    rw [this]
    rfl
  · intro i hi
    unfold slices_Equal_byte_byte_x1
    have : ((i : Int) < l.length) := by omega
    simp only [this, decide_true, cond_true, at_nat hi, Option.bind_some, Bool.not_true, cond_false]
  · unfold slices_Equal_byte_byte_x1
    simp

theorem seven_o_small {b : List Int} {n : Int} (h : n < 128) (hb : b.length ≤ 100000) : series_seven_o0 b n = some (b ++ [IntKind.wrap .u8 n]) := by
  unfold series_seven_o0
  rw [loopO_eq]
  have h' : ¬ 128 ≤ n := by omega
  have e : series_seven_o0_x1 (b, n) = some (.inr (b, n)) := by
    unfold series_seven_o0_x1
    simp [h']
  rw [e]
  simp only [Option.bind_some]
  rw [gd_true (ble_lim (by simp; omega))]
theorem seven_n_small {n : Int} (h : n < 128) : series_seven_n0 n = some [IntKind.wrap .u8 n] := by
  unfold series_seven_n0
  rw [loopO_eq]
  have h' : ¬ 128 ≤ n := by omega
  have e : series_seven_n0_x1 ([], n) = some (.inr ([], n)) := by
    unfold series_seven_n0_x1
    simp [h']
  rw [e]
  simp only [Option.bind_some]
  rw [gd_true (ble_lim (by simp))]
  rfl
end Go.Eng

/-
The law CountersRead.
-/
namespace Go.Eng
open Go
set_option linter.unusedVariables false
set_option linter.unusedSimpArgs false

/-- A search for the first element that a test lets in. -/
theorem idx_loop {α : Type} {l : List α} {f : Int → Option (Int ⊕ (Unit ⊕ Int))} (p : α → Bool) (hl : (l.length : Int) ≤ 9223372036854775807)
    (hf : ∀ (i : Nat) (h : i < l.length), f i = some (cond (p l[i]) (.inr (.inr (i : Int))) (.inl (IntKind.wrap .i64 (i + 1))))) (hd : f l.length = some (.inr (.inl ()))) :
    (∃ v : Nat, loopO f 0 = some (.inr (v : Int)) ∧ l.any p = true) ∨ (loopO f 0 = some (.inl ()) ∧ l.any p = false) := by
  rw [range_loop (l := l) (fun i x => cond (p x) (some (.inr (i : Int))) none) (.inl ()) hl]
  · have key : ∀ (l : List α) (k : Nat), (∃ v : Nat, scan (fun i x => cond (p x) (some (Sum.inr (i : Int) : Unit ⊕ Int)) none) k l = some (.inr (v : Int)) ∧ l.any p = true) ∨ (scan (fun i x => cond (p x) (some (Sum.inr (i : Int) : Unit ⊕ Int)) none) k l = none ∧ l.any p = false) := by
      intro l
      induction l with
      | nil => intro k; exact .inr ⟨rfl, rfl⟩
      | cons x l ih =>
        intro k
        simp only [scan, List.any_cons]
        cases p x with
        | true => exact .inl ⟨k, rfl, rfl⟩
        | false => simpa using ih (k + 1)
    rcases key l 0 with ⟨v, h1, h2⟩ | ⟨h1, h2⟩
    · exact .inl ⟨v, by rw [h1]; rfl, h2⟩
    · exact .inr ⟨by rw [h1]; rfl, h2⟩
  · intro i hi
    rw [hf i hi]
    cases p l[i] <;> rfl
  · exact hd

def negB (l : List api_Sample) : Bool := l.any fun x => decide (x.Value < 0)
theorem neg1_eq (l : List api_Sample) (hl : (l.length : Int) ≤ 9223372036854775807) : slices_ContainsFunc_api_Sample_api_Sample_f1_series_rises_1 l = some (negB l) := by
  unfold slices_ContainsFunc_api_Sample_api_Sample_f1_series_rises_1 slices_IndexFunc_api_Sample_api_Sample_f1_series_rises_1
  have H := idx_loop (f := slices_IndexFunc_api_Sample_api_Sample_f1_series_rises_1_x1 l) (fun x : api_Sample => decide (x.Value < 0)) hl (fun i hi => by
    unfold slices_IndexFunc_api_Sample_api_Sample_f1_series_rises_1_x1 series_rises_1
    have : ((i : Int) < l.length) := by omega
    simp only [this, decide_true, cond_true, at_nat hi, Option.bind_some]
    cases decide (l[i].Value < 0) <;> rfl) (by unfold slices_IndexFunc_api_Sample_api_Sample_f1_series_rises_1_x1; simp)
  rcases H with ⟨v, h1, h2⟩ | ⟨h1, h2⟩
  · rw [h1]; unfold negB; rw [h2]; simp
  · rw [h1]; unfold negB; rw [h2]; simp
/-! ### Rises -/
def rise (x y : api_Sample) : api_Rise := api_Rise.mk x.At y.At (if y.Value < x.Value then y.Value else y.Value - x.Value) (decide (y.Value < x.Value))
end Go.Eng

/-
The law CountersRead: what grew, gaps, the whole.
-/
namespace Go.Eng
open Go
set_option linter.unusedVariables false
set_option linter.unusedSimpArgs false

/-- A loop over all elements of a list that only gathers. -/
theorem fold_loop {τ σ ρ α : Type} {l : List α} {f : τ → Option (τ ⊕ ρ)} (e : σ → Int → τ) (h : σ → α → σ) (fin : σ → ρ) (I : Nat → σ → Prop) {s0 : σ} (hl : (l.length : Int) ≤ 9223372036854775807)
    (hf : ∀ (i : Nat) (hi : i < l.length) (s : σ), I i s → f (e s i) = some (.inl (e (h s l[i]) (IntKind.wrap .i64 (i + 1)))) ∧ I (i + 1) (h s l[i])) (hd : ∀ s, I l.length s → f (e s l.length) = some (.inr (fin s))) (h0 : I 0 s0) :
    loopO f (e s0 0) = some (fin (l.foldl h s0)) ∧ I l.length (l.foldl h s0) := by
  have key : ∀ (n i : Nat) (s : σ), l.length - i = n → i ≤ l.length → I i s → loopO f (e s i) = some (fin ((l.drop i).foldl h s)) ∧ I l.length ((l.drop i).foldl h s) := by
    intro n
    induction n with
    | zero =>
      intro i s h1 h2 h3
      have : i = l.length := by omega
      subst this
      rw [List.drop_length]
      refine ⟨?_, h3⟩
      rw [loopO_eq, hd s h3]
      rfl
    | succ n ih =>
      intro i s h1 h2 h3
      have hi : i < l.length := by omega
      obtain ⟨g1, g2⟩ := hf i hi s h3
      obtain ⟨f1, f2⟩ := ih (i + 1) (h s l[i]) (by omega) (by omega) g2
      rw [drop_get hi, List.foldl_cons]
      refine ⟨?_, f2⟩
      rw [loopO_eq, g1]
      simp only [Option.bind_some]
      rw [wrap64 (by omega) (by omega)]
      exact f1
  have := key l.length 0 s0 (by omega) (by omega) h0
  simpa using this

/-! ### Grown -/
theorem grown_ok (w : api_Window) (rs : List api_Rise) (hl : (rs.length : Int) ≤ 9223372036854775807) : ∃ n, loopO (series_Grown_x1 w rs) (0, 0) = some n := by
  have := fold_loop (l := rs) (f := series_Grown_x1 w rs) (fun (n : Int) i => (n, i)) (fun n y => bif decide (w.From < y.To) then (bif decide (y.To ≤ w.To) then IntKind.wrap .i64 (n + y.By) else n) else n) id (fun _ _ => True) (s0 := 0) hl (fun i hi n _ => by
    refine ⟨?_, trivial⟩
    unfold series_Grown_x1 series_Grown_x2 series_Grown_x3
    have : ((i : Int) < rs.length) := by omega
    simp only [this, decide_true, cond_true, at_nat hi, Option.bind_some]
    cases decide (w.From < rs[i].To) <;> cases decide (rs[i].To ≤ w.To) <;> rfl) (fun n _ => by unfold series_Grown_x1; simp) trivial
  exact ⟨_, this.1⟩

/-! ### Gaps -/
def gp (most a b : Int) : List api_Window := if most < b - a then [api_Window.mk a b] else []
def adj (most : Int) : Int → List Int → List api_Window
  | _, [] => []
  | a, b :: r => gp most a b ++ adj most b r
def lastI : Int → List Int → Int
  | a, [] => a
  | _, b :: r => lastI b r
def inW (w : api_Window) (x : api_Sample) : Bool := decide (w.From ≤ x.At) && decide (x.At < w.To)
def moms (w : api_Window) (l : List api_Sample) : List Int := (l.filter (inW w)).map (·.At)

theorem adj_snoc (most : Int) : ∀ (a : Int) (l : List Int) (b : Int), adj most a (l ++ [b]) = adj most a l ++ gp most (lastI a l) b
  | a, [], b => by simp [adj, lastI]
  | a, c :: l, b => by simp [adj, lastI, adj_snoc most c l b]
theorem gp_len (most a b : Int) : (gp most a b).length ≤ 1 := by unfold gp; split <;> simp

theorem close_eq {most a b : Int} {out : List api_Window} (ha : -2199023255552 ≤ a ∧ a ≤ 2199023255552) (hb : -2199023255552 ≤ b ∧ b ≤ 2199023255552) (ho : out.length ≤ 1000000) : series_Gaps_1_b2o b a most out = some (out ++ gp most a b) := by
  unfold series_Gaps_1_b2o series_Gaps_1_b2o_x1 gp
  rw [wrap64 (n := b - a) (by omega) (by omega)]
  by_cases h : most < b - a
  · simp only [h, decide_true, cond_true, if_true]
    rw [gd_true (ble_lim (by simp; omega))]
    rfl
  · simp [h]
theorem series_in_eq (w : api_Window) (x : api_Sample) : series_in w x.At = some (inW w x) := by
  unfold series_in series_in_x1 inW
  cases decide (w.From ≤ x.At) <;> rfl
def gStep (w : api_Window) (most : Int) (s : List api_Window × Int) (x : api_Sample) : List api_Window × Int := cond (inW w x) (s.1 ++ gp most s.2 x.At, x.At) s
theorem gStep_fold (w : api_Window) (most : Int) : ∀ (l : List api_Sample) (out : List api_Window) (a : Int), l.foldl (gStep w most) (out, a) = (out ++ adj most a (moms w l), lastI a (moms w l))
  | [], out, a => by simp [moms, adj, lastI]
  | x :: l, out, a => by
    rw [List.foldl_cons]
    unfold gStep
    cases h : inW w x with
    | true =>
      simp only [cond_true]
      have := gStep_fold w most l (out ++ gp most a x.At) x.At
      rw [show (l.foldl (fun s x => cond (inW w x) (s.1 ++ gp most s.2 x.At, x.At) s) (out ++ gp most a x.At, x.At)) = l.foldl (gStep w most) (out ++ gp most a x.At, x.At) from rfl, this]
      simp [moms, List.filter_cons, h, adj, lastI]
    | false =>
      simp only [cond_false]
      have := gStep_fold w most l out a
      rw [show (l.foldl (fun s x => cond (inW w x) (s.1 ++ gp most s.2 x.At, x.At) s) (out, a)) = l.foldl (gStep w most) (out, a) from rfl, this]
      simp [moms, List.filter_cons, h]

theorem gaps1_eq {l : List api_Sample} {w : api_Window} {most : Int} (hb : SBnd l) (hw : WBnd w) (hl : l.length ≤ 100000) :
    loopO (series_Gaps_x1 l w most) ([], w.From, 0) = some (adj most w.From (moms w l), lastI w.From (moms w l)) ∧ (adj most w.From (moms w l)).length ≤ 100000 ∧ (-2199023255552 ≤ lastI w.From (moms w l) ∧ lastI w.From (moms w l) ≤ 2199023255552) := by
  have := fold_loop (l := l) (f := series_Gaps_x1 l w most) (fun (s : List api_Window × Int) i => (s.1, s.2, i)) (gStep w most) id (fun i s => s.1.length ≤ i ∧ (-2199023255552 ≤ s.2 ∧ s.2 ≤ 2199023255552)) (s0 := ([], w.From)) (by omega) (fun i hi s hs => by
    obtain ⟨out, a⟩ := s
    obtain ⟨h1, h2⟩ := hs
    simp only at h1 h2
    obtain ⟨_, _, b3, _⟩ := hb l[i] (List.getElem_mem hi)
    unfold series_Gaps_x1 series_Gaps_x2 gStep
    have : ((i : Int) < l.length) := by omega
    simp only [this, decide_true, cond_true, at_nat hi, Option.bind_some, series_in_eq]
    cases inW w l[i] with
    | true =>
      simp only [cond_true]
      rw [close_eq h2 b3 (by omega)]
      refine ⟨rfl, ?_, b3⟩
      have := gp_len most a l[i].At
      simp only [List.length_append]; omega
    | false => exact ⟨rfl, by simp only [cond_false]; omega, h2⟩) (fun s _ => by unfold series_Gaps_x1; simp) ⟨by simp, hw.1⟩
  rw [gStep_fold] at this
  obtain ⟨h1, h2, h3⟩ := this
  simp only [List.nil_append] at h1 h2 h3
  exact ⟨h1, by omega, h3⟩

theorem adj_len (most : Int) : ∀ (a : Int) (l : List Int), (adj most a l).length ≤ l.length
  | _, [] => by simp [adj]
  | a, b :: l => by
    have := adj_len most b l
    have := gp_len most a b
    simp only [adj, List.length_append, List.length_cons]; omega

end Go.Eng

/-
Sorting few numbers: it answers, and leaves as many. Quantiles.
-/
namespace Go.Eng
open Go
set_option linter.unusedVariables false
set_option linter.unusedSimpArgs false

theorem len_few {n : Nat} (h : n ≤ 12) : ∃ r, bits_Len (IntKind.wrap .u64 (n : Int)) = some r := by
  have : ∀ k : _root_.Fin 13, (bits_Len (IntKind.wrap .u64 (k.val : Int))).isSome = true := by decide +kernel
  exact Option.isSome_iff_exists.1 (this ⟨n, by omega⟩)
end Go.Eng

/-
The times for which values are held; means and what lies beyond.
-/
namespace Go.Eng
open Go
set_option linter.unusedVariables false
set_option linter.unusedSimpArgs false

/-! ### Least common form of a fraction -/
theorem tmod_abs (a b : Int) : ((a.natAbs : Int)).tmod (b.natAbs : Int) = ((a.tmod b).natAbs : Int) := by
  rw [Int.natAbs_tmod]
  rfl
/-! ### Spans -/
structure Sp where
  a : Int
  b : Int
  v : Int
def Sp.s (x : Sp) : series_span := series_span.mk x.a x.b x.v
def SpOk (x : Sp) : Prop := (0 ≤ x.a ∧ x.a < x.b ∧ x.b ≤ 345686400000) ∧ (-1000000000 ≤ x.v ∧ x.v ≤ 1000000000)
def tot : List Sp → Int
  | [] => 0
  | x :: l => (x.b - x.a) + tot l
theorem tot_snoc : ∀ (l : List Sp) (x : Sp), tot (l ++ [x]) = tot l + (x.b - x.a)
  | [], x => by simp [tot]
  | y :: l, x => by simp only [List.cons_append, tot, tot_snoc l x]; omega
/-- How much of the window has passed at a place of a series. -/
def past (l : List api_Sample) (w : api_Window) (i : Nat) : Int := if h : i < l.length then (if l[i].At < w.From then 0 else if w.To < l[i].At then w.To - w.From else l[i].At - w.From) else w.To - w.From

/-! ### The mean -/
theorem tot_nonneg : ∀ {L : List Sp}, (∀ x ∈ L, SpOk x) → 0 ≤ tot L
  | [], _ => by simp [tot]
  | x :: L, h => by
    have h1 := h x (by simp)
    have h2 := tot_nonneg fun y hy => h y (List.mem_cons_of_mem _ hy)
    unfold SpOk at h1
    simp only [tot]; omega
theorem tot_drop : ∀ {L : List Sp} {i : Nat} (hi : i < L.length), tot (L.drop i) = (L[i].b - L[i].a) + tot (L.drop (i + 1)) := by
  intro L i hi
  rw [drop_get hi]; rfl
/-! ### What lies beyond -/
end Go.Eng

/-
What a right series of a stream is.
-/
namespace Go.Eng
open Go
set_option linter.unusedVariables false
set_option linter.unusedSimpArgs false

structure RSer (low : Int) (l : List api_Sample) : Prop where
  dev : ∀ x ∈ l, x.Device = [100] ∧ x.Metric = [109]
  mom : ∀ x ∈ l, 1 ≤ x.At ∧ x.At ≤ 99999
  val : ∀ x ∈ l, low ≤ x.Value ∧ x.Value ≤ 1000
  inc : l.Pairwise fun x y => x.At < y.At

theorem RSer.nil (low : Int) : RSer low [] := ⟨(fun _ h => nomatch h), (fun _ h => nomatch h), (fun _ h => nomatch h), .nil⟩
theorem RSer.snoc {low : Int} {l : List api_Sample} (h : RSer low l) {a v : Int} (ha : 1 ≤ a ∧ a ≤ 99999) (hv : low ≤ v ∧ v ≤ 1000) (hl : ∀ x ∈ l, x.At < a) : RSer low (l ++ [api_Sample.mk [100] [109] a v]) := by
  refine ⟨fun x hx => ?_, fun x hx => ?_, fun x hx => ?_, ?_⟩
  · rcases List.mem_append.1 hx with hx | hx
    · exact h.dev x hx
    · rw [List.mem_singleton.1 hx]; exact ⟨rfl, rfl⟩
  · rcases List.mem_append.1 hx with hx | hx
    · exact h.mom x hx
    · rw [List.mem_singleton.1 hx]; exact ha
  · rcases List.mem_append.1 hx with hx | hx
    · exact h.val x hx
    · rw [List.mem_singleton.1 hx]; exact hv
  · rw [List.pairwise_append]
    refine ⟨h.inc, List.pairwise_singleton _ _, fun x hx y hy => ?_⟩
    rw [List.mem_singleton.1 hy]
    exact hl x hx

/-- A stream behind n more numbers, and what was made of them. -/
theorem RightSeries_right {k : Nat} {s : fleetmake_Stream} {most low : Int} (h : StrOk k s) (hk : k + 300 < 1099511627776) (hm : 0 ≤ most ∧ most ≤ 99) (hlow : -1000 ≤ low ∧ low ≤ 0) :
    Ok (fleetmake_Stream_RightSeries s most low) (fun r => StrOk (k + 300) r.1 ∧ RSer low r.2 ∧ (r.2.length : Int) ≤ most) := by
  unfold fleetmake_Stream_RightSeries
  refine (Range_ok h (by omega) (by omega) (by omega)).bind fun ⟨s1, n⟩ ⟨g1, g2, g3, _⟩ => ?_
  have g3 := g3 (by omega)
  simp only at g1 g2 g3
  refine Ok.bind (P := fun r => StrOk (k + 300) r.1 ∧ RSer low r.2 ∧ (r.2.length : Int) ≤ most) ?_ fun ⟨s2, out⟩ h2 => .some h2
  refine loop_ok (fun q : fleetmake_Stream × List api_Sample × Int × Int => ∃ i : Nat, q.2.2.2 = i ∧ i ≤ n ∧ StrOk (k + 1 + 2 * i) q.1 ∧ q.2.1.length = i ∧ (0 ≤ q.2.2.1 ∧ q.2.2.1 ≤ 1000 * i) ∧ RSer low q.2.1 ∧ ∀ x ∈ q.2.1, x.At ≤ q.2.2.1) (fun q => (n - q.2.2.2).toNat) ?_ ?_
  · rintro ⟨s2, out, a, i0⟩ ⟨i, e1, e2, e3, e4, e5, e6, e7⟩
    simp only at e1 e3 e4 e5 e6 e7
    subst e1
    unfold fleetmake_Stream_RightSeries_x1
    refine .cond (fun hc => ?_) (fun hc => ?_)
    · have hc' : (i : Int) < n := by simpa using hc
      refine (Pick_ok e3 (by omega) (by simp) (by simp)).bind fun d hd => ?_
      refine (Pick_ok (e3.nxt (by omega)) (by omega) (by simp) (by simp)).bind fun v hv => ?_
      have hd' : 1 ≤ d ∧ d ≤ 1000 := by simp at hd; omega
      have hv' : -70 ≤ v ∧ v ≤ 1000 := by simp at hv; omega
      rw [wrap64 (n := a + d) (by omega) (by omega), wrap64 (n := (i : Int) + 1) (by omega) (by omega)]
      refine .gd (ble_lim (by simp; omega)) (.some ⟨⟨i + 1, by simp, by omega, ?_, by simp [e4], ?_, ?_, ?_⟩, ?_⟩)
      · exact ((e3.nxt (by omega)).nxt (by omega)).mono (by omega)
      · simp only; omega
      · refine e6.snoc (by omega) ?_ (fun x hx => by have := e7 x hx; omega)
        unfold imax
        split <;> omega
      · intro x hx
        simp only at hx ⊢
        rcases List.mem_append.1 hx with hx | hx
        · have := e7 x hx; omega
        · rw [List.mem_singleton.1 hx]; simp
      · simp only; omega
    · have hc' : ¬ (i : Int) < n := by simpa using hc
      exact .some ⟨e3.mono (by omega), e6, by simp only; omega⟩
  · exact ⟨0, rfl, by omega, g1.mono (by omega), rfl, by simp, RSer.nil low, (fun x hx => nomatch hx)⟩

theorem RSer.bnd {low : Int} {l : List api_Sample} (h : RSer low l) (hlow : -1000 ≤ low) : SBnd l := by
  intro x hx
  obtain ⟨h1, h2⟩ := h.dev x hx
  have h3 := h.mom x hx
  have h4 := h.val x hx
  rw [h1, h2]
  refine ⟨by simp, by simp, by omega, by omega⟩
theorem RSer.right {low : Int} {l : List api_Sample} (h : RSer low l) (hlow : -1000 ≤ low) (hl : l.length ≤ 5000) : Right l := by
  refine ⟨hl, fun i hi => ?_, fun i hi => ?_⟩
  · have h3 := h.mom _ (List.getElem_mem hi)
    have h4 := h.val _ (List.getElem_mem hi)
    omega
  · exact List.pairwise_iff_getElem.1 h.inc i (i + 1) (by omega) hi (by omega)
theorem smpB_ok {x : api_Sample} (k1 : keyB x.Device = true) (k2 : keyB x.Metric = true) (h1 : 0 ≤ x.At ∧ x.At ≤ 345686399999) (h2 : -1000000000 ≤ x.Value ∧ x.Value ≤ 1000000000) : smpB x = none := by
  unfold smpB
  rw [k1, k2, if_neg (by simp), if_neg (by simp [h1.1, h1.2, h2.1, h2.2])]
/-- A series of one device and one metric whose moments rise is right. -/
theorem series_zero {l : List api_Sample} {d m : List UInt8} (hr : Right l) (ho : ∀ x ∈ l, x.Device = d ∧ x.Metric = m) (kd : keyB d = true) (km : keyB m = true) : seriesV l = 0 := by
  have hc : checkV l = 0 := by
    unfold checkV
    have := hr.len
    rw [if_neg (by omega)]
    rw [scan_none.2]
    · rfl
    · intro i x hx
      obtain ⟨hi, rfl⟩ := List.getElem?_eq_some_iff.1 hx
      obtain ⟨o1, o2⟩ := ho _ (List.getElem_mem hi)
      obtain ⟨b1, b2⟩ := hr.bnd i hi
      rw [Nat.zero_add]
      unfold chkG
      rw [smpB_ok (by rw [o1]; exact kd) (by rw [o2]; exact km) b1 b2]
      cases i with
      | zero => rfl
      | succ j =>
        simp only
        have hj : j < l.length := by omega
        rw [List.getElem?_eq_getElem hj]
        simp only
        obtain ⟨p1, p2⟩ := ho _ (List.getElem_mem hj)
        have hn := hr.next j hi
        rw [if_neg]
        unfold sOrd or0
        rw [o1, o2, p1, p2, cmpB_self, cmpB_self]
        simp only [if_true]
        unfold cmpI
        rw [if_neg (by omega), if_pos hn]
        decide
  unfold seriesV
  rw [if_neg (by simp [hc])]
  have : anyDiff l = false := by
    cases l with
    | nil => rfl
    | cons y l =>
      unfold anyDiff
      rw [List.any_eq_false]
      intro x hx
      obtain ⟨o1, o2⟩ := ho x hx
      obtain ⟨p1, p2⟩ := ho y (by simp)
      simp [diffB, o1, o2, p1, p2]
  rw [this]
  rfl
theorem RSer.zero {low : Int} {l : List api_Sample} (h : RSer low l) (hlow : -1000 ≤ low) (hl : l.length ≤ 5000) : seriesV l = 0 :=
  series_zero (h.right hlow hl) h.dev (by decide) (by decide)
end Go.Eng

/-
What Grown and Gaps answer for a right counter.
-/
namespace Go.Eng
open Go
set_option linter.unusedVariables false
set_option linter.unusedSimpArgs false

theorem wrap_add (a b : Int) : IntKind.wrap .i64 (IntKind.wrap .i64 a + b) = IntKind.wrap .i64 (a + b) := by
  unfold IntKind.wrap
  simp [IntKind.bits, IntKind.signed]
  split <;> split <;> split <;> omega
theorem wrap_add2 (a b : Int) : IntKind.wrap .i64 (IntKind.wrap .i64 a + IntKind.wrap .i64 b) = IntKind.wrap .i64 (a + b) := by
  rw [wrap_add, Int.add_comm, wrap_add, Int.add_comm]

/-! ### Rises -/
theorem rises1_round {l : List api_Sample} (hb : SBnd l) {i : Nat} (h0 : 0 < i) (hi : i < l.length) (out : List api_Rise) (hl : l.length ≤ 100000) (ho : out.length ≤ 100000) :
    series_rises_x1 l (out, i) = some (.inl (out ++ [rise (l[i - 1]'(by omega)) l[i]], (i : Int) + 1)) := by
  obtain ⟨j, rfl⟩ : ∃ j, i = j + 1 := ⟨i - 1, by omega⟩
  have hj : j < l.length := by omega
  obtain ⟨_, _, _, b1⟩ := hb l[j] (List.getElem_mem hj)
  obtain ⟨_, _, _, b2⟩ := hb l[j + 1] (List.getElem_mem hi)
  have e1 : IntKind.wrap .i64 (((j + 1 : Nat) : Int) - 1) = (j : Int) := by rw [wrap64 (by omega) (by omega)]; omega
  have e2 : IntKind.wrap .i64 (((j + 1 : Nat) : Int) + 1) = ((j + 1 : Nat) : Int) + 1 := wrap64 (by omega) (by omega)
  have e3 : IntKind.wrap .i64 (l[j + 1].Value - l[j].Value) = l[j + 1].Value - l[j].Value := wrap64 (by omega) (by omega)
  have hlt : (((j + 1 : Nat) : Int) < l.length) := by omega
  have g : ∀ x : api_Rise, Nat.ble (out.length + [x].length) LIM = true := fun x => ble_lim (by simp; omega)
  have hs : j + 1 - 1 = j := by omega
  unfold series_rises_x1 series_rises_x2
  simp only [hlt, decide_true, cond_true, e1, e2, at_nat hj, at_nat hi, Option.bind_some, e3]
  unfold rise
  by_cases hv : l[j + 1].Value < l[j].Value
  · have : l[j + 1].Value - l[j].Value < 0 := by omega
    simp only [this, decide_true, cond_true, Option.bind_some, hv, if_true]
    rw [gd_true (g _)]
    simp [hv]
  · have : ¬ l[j + 1].Value - l[j].Value < 0 := by omega
    simp only [this, decide_false, cond_false, Option.bind_some, hv, if_false]
    rw [gd_true (g _)]
    simp [hv]

theorem rises1 {l : List api_Sample} (hb : SBnd l) (hl : l.length ≤ 100000) : ∃ rs, loopO (series_rises_x1 l) ([], 1) = some rs ∧ rs.length ≤ 100001 := by
  have key : ∀ (n i : Nat) (out : List api_Rise), l.length - i = n → 0 < i → out.length ≤ i → i ≤ l.length + 1 → ∃ rs, loopO (series_rises_x1 l) (out, (i : Int)) = some rs ∧ rs.length ≤ l.length + 1 := by
    intro n
    induction n with
    | zero =>
      intro i out h1 h2 h3 h4
      have hlt : ¬ ((i : Int) < l.length) := by omega
      refine ⟨out, ?_, by omega⟩
      rw [loopO_eq]; unfold series_rises_x1; simp [hlt]
    | succ n ih =>
      intro i out h1 h2 h3 h4
      have hi : i < l.length := by omega
      have g1 := rises1_round hb h2 hi out hl (by omega)
      obtain ⟨rs, f1, f3⟩ := ih (i + 1) (out ++ [rise (l[i - 1]'(by omega)) l[i]]) (by omega) (by omega) (by simp; omega) (by omega)
      refine ⟨rs, ?_, f3⟩
      rw [loopO_eq, g1]; exact f1
  by_cases h : l.length = 0
  · have hlt : ¬ ((1 : Int) < l.length) := by omega
    refine ⟨[], ?_, by simp⟩
    rw [loopO_eq]; unfold series_rises_x1; simp [hlt]
  · obtain ⟨rs, h1, h3⟩ := key (l.length - 1) 1 [] rfl (by omega) (by simp) (by omega)
    exact ⟨rs, h1, by omega⟩

/-! ### Grown -/
def byIn (w : api_Window) (r : api_Rise) : Int := if w.From < r.To ∧ r.To ≤ w.To then r.By else 0
def sumIn (w : api_Window) : List api_Rise → Int
  | [] => 0
  | r :: rs => byIn w r + sumIn w rs
theorem grown_val (w : api_Window) (rs : List api_Rise) (hl : (rs.length : Int) ≤ 9223372036854775807) : loopO (series_Grown_x1 w rs) (0, 0) = some (IntKind.wrap .i64 (sumIn w rs)) := by
  have := fold_loop (l := rs) (f := series_Grown_x1 w rs) (fun (n : Int) i => (n, i)) (fun n y => bif decide (w.From < y.To) then (bif decide (y.To ≤ w.To) then IntKind.wrap .i64 (n + y.By) else n) else n) id (fun _ _ => True) (s0 := 0) hl (fun i hi n _ => by
    refine ⟨?_, trivial⟩
    unfold series_Grown_x1 series_Grown_x2 series_Grown_x3
    have : ((i : Int) < rs.length) := by omega
    simp only [this, decide_true, cond_true, at_nat hi, Option.bind_some]
    cases decide (w.From < rs[i].To) <;> cases decide (rs[i].To ≤ w.To) <;> rfl) (fun n _ => by unfold series_Grown_x1; simp) trivial
  rw [this.1]
  have key : ∀ (rs : List api_Rise) (n : Int), IntKind.wrap .i64 (rs.foldl (fun n y => bif decide (w.From < y.To) then (bif decide (y.To ≤ w.To) then IntKind.wrap .i64 (n + y.By) else n) else n) n) = IntKind.wrap .i64 (n + sumIn w rs) := by
    intro rs
    induction rs with
    | nil => intro n; simp [sumIn]
    | cons y rs ih =>
      intro n
      rw [List.foldl_cons, ih, show sumIn w (y :: rs) = byIn w y + sumIn w rs from rfl]
      unfold byIn
      by_cases h1 : w.From < y.To <;> by_cases h2 : y.To ≤ w.To
      · simp only [h1, h2, decide_true, cond_true, and_self, if_true]
        rw [wrap_add]; congr 1; omega
      · simp [h1, h2]
      · simp [h1, h2]
      · simp [h1, h2]
  have hid : ∀ (rs : List api_Rise) (n : Int), I64 n → I64 (rs.foldl (fun n y => bif decide (w.From < y.To) then (bif decide (y.To ≤ w.To) then IntKind.wrap .i64 (n + y.By) else n) else n) n) := by
    intro rs
    induction rs with
    | nil => intro n h; exact h
    | cons y rs ih =>
      intro n h
      rw [List.foldl_cons]
      refine ih _ ?_
      cases decide (w.From < y.To)
      · exact h
      · cases decide (y.To ≤ w.To)
        · exact h
        · exact wrap_I64 _
  have h1 := key rs 0
  have h2 := hid rs 0 (by unfold I64; omega)
  rw [wrap64 h2.1 h2.2, Int.zero_add] at h1
  exact congrArg some h1
theorem sumIn_split {a b c : Int} (h1 : a ≤ b) (h2 : b ≤ c) : ∀ rs : List api_Rise, sumIn (api_Window.mk a b) rs + sumIn (api_Window.mk b c) rs = sumIn (api_Window.mk a c) rs
  | [] => rfl
  | r :: rs => by
    have := sumIn_split h1 h2 rs
    unfold sumIn
    have : byIn (api_Window.mk a b) r + byIn (api_Window.mk b c) r = byIn (api_Window.mk a c) r := by
      unfold byIn
      simp only
      split <;> split <;> split <;> omega
    omega

theorem Grown_val {l : List api_Sample} (hb : SBnd l) (hl : l.length ≤ 10000) (hz : seriesV l = 0) (hn : negB l = false) : ∃ rs : List api_Rise, ∀ w, windowB w = true → series_Grown l w = some (IntKind.wrap .i64 (sumIn w rs), 0) := by
  obtain ⟨rs, h1, h3⟩ := rises1 hb (by omega)
  refine ⟨rs, fun w hw => ?_⟩
  have hr : series_rises l = some (rs, 0) := by
    unfold series_rises
    rw [neg1_eq l (by omega), h1, hn]
    rfl
  unfold series_Grown
  rw [fault_eq w hb (by omega), hr]
  simp only [Option.bind_some, grown_val w rs (by omega)]
  simp [or0, hz, hw]

/-! ### Gaps -/
theorem Gaps_val {l : List api_Sample} {w : api_Window} {most : Int} (hb : SBnd l) (hw : WBnd w) (hl : l.length ≤ 10000) (hz : seriesV l = 0) (hwb : windowB w = true) (hm : 1 ≤ most ∧ most ≤ 345686400000) :
    series_Gaps l w most = some (adj most w.From (moms w l ++ [w.To]), 0) := by
  obtain ⟨h1, h2, h3⟩ := gaps1_eq (most := most) hb hw (by omega)
  unfold series_Gaps
  rw [fault_eq w hb (by omega), Out_eq]
  have m1 : ¬ most < 1 := by omega
  have m2 : ¬ (345686400000 : Int) < most := by omega
  simp only [Option.bind_some, hz, hwb, or0, if_true, cond_true, m1, m2, decide_false, Bool.or_self, decide_true, Bool.not_true, cond_false, h1]
  rw [close_eq h3 hw.2 (by omega), adj_snoc]
  rfl

/-- A window between two moments of a series, as Gaps tells it. -/
def GapOk (l : List api_Sample) (most last to : Int) : List api_Window → Prop
  | [] => True
  | g :: gs => most < g.To - g.From ∧ last ≤ g.From ∧ g.To ≤ to ∧ (∀ x ∈ l, ¬ (g.From < x.At ∧ x.At < g.To)) ∧ GapOk l most g.To to gs
theorem GapOk.less {l : List api_Sample} {most a b to : Int} (h : a ≤ b) : ∀ {gs : List api_Window}, GapOk l most b to gs → GapOk l most a to gs
  | [], _ => trivial
  | g :: gs, ⟨h1, h2, h3, h4, h5⟩ => ⟨h1, by omega, h3, h4, h5⟩
theorem adj_ok {l : List api_Sample} {most to : Int} : ∀ (ms : List Int) (a : Int), (a :: (ms ++ [to])).Pairwise (· ≤ ·) → ms.Pairwise (· < ·) → (∀ x ∈ l, a < x.At → x.At < to → x.At ∈ ms) → GapOk l most a to (adj most a (ms ++ [to]))
  | [], a, hp, _, hx => by
    have hat : a ≤ to := by simp at hp; exact hp
    simp only [List.nil_append, adj, gp]
    split
    · refine ⟨by assumption, Int.le_refl _, Int.le_refl _, fun x hxl hc => ?_, trivial⟩
      have := hx x hxl hc.1 hc.2
      cases this
    · trivial
  | b :: ms, a, hp, hs, hx => by
    simp only [List.cons_append] at hp ⊢
    have hp' := hp
    rw [List.pairwise_cons] at hp
    obtain ⟨hp1, hp2⟩ := hp
    have hab : a ≤ b := hp1 b (by simp)
    have hbt : b ≤ to := by
      rw [List.pairwise_cons] at hp2
      exact hp2.1 to (by simp)
    rw [List.pairwise_cons] at hs
    obtain ⟨hs1, hs2⟩ := hs
    have ih := adj_ok (l := l) (most := most) (to := to) ms b hp2 hs2 (fun x hxl h1 h2 => by
      rcases List.mem_cons.1 (hx x hxl (by omega) h2) with h | h
      · omega
      · exact h)
    simp only [adj]
    unfold gp
    split
    · refine ⟨by assumption, Int.le_refl _, hbt, fun x hxl hc => ?_, ih⟩
      simp only at hc
      rcases List.mem_cons.1 (hx x hxl hc.1 (by omega)) with h | h
      · omega
      · have := hs1 _ h; omega
    · exact ih.less hab
theorem moms_inc {low : Int} {l : List api_Sample} (h : RSer low l) (w : api_Window) : (moms w l).Pairwise (· < ·) := by
  unfold moms
  rw [List.pairwise_map]
  exact h.inc.filter _
theorem gaps_ok {low : Int} {l : List api_Sample} (h : RSer low l) {w : api_Window} (hw : w.From ≤ w.To) (most : Int) : GapOk l most w.From w.To (adj most w.From (moms w l ++ [w.To])) := by
  have hin : ∀ t ∈ moms w l, w.From ≤ t ∧ t < w.To := by
    intro t ht
    unfold moms at ht
    obtain ⟨x, hx, rfl⟩ := List.mem_map.1 ht
    have := (List.mem_filter.1 hx).2
    simpa [inW] using this
  refine adj_ok (moms w l) w.From ?_ (moms_inc h w) ?_
  · rw [List.pairwise_cons]
    refine ⟨fun t ht => ?_, ?_⟩
    · rcases List.mem_append.1 ht with ht | ht
      · exact (hin t ht).1
      · rw [List.mem_singleton.1 ht]; exact hw
    · rw [List.pairwise_append]
      refine ⟨(moms_inc h w).imp fun h => Int.le_of_lt h, List.pairwise_singleton _ _, fun t ht u hu => ?_⟩
      rw [List.mem_singleton.1 hu]
      exact Int.le_of_lt (hin t ht).2
  · intro x hx h1 h2
    unfold moms
    refine List.mem_map.2 ⟨x, List.mem_filter.2 ⟨hx, ?_⟩, rfl⟩
    simp [inW]; omega
theorem negB_false {low : Int} {l : List api_Sample} (h : RSer low l) (h0 : 0 ≤ low) : negB l = false := by
  unfold negB
  rw [List.any_eq_false]
  intro x hx
  have := (h.val x hx).1
  simp; omega
end Go.Eng

/-
What the laws ask of each package once.
-/
namespace Go.Eng
open Go
theorem ready_eq : fleetkeep2_ready = some true := by kernel_rfl
end Go.Eng

/-
Fractions in lowest terms; the spans of a right series; the mean that it holds.
-/
namespace Go.Eng
open Go
set_option linter.unusedVariables false
set_option linter.unusedSimpArgs false

/-! ### Fractions -/
theorem gcd1 {x y : Int} (hx : 0 ≤ x) (hy : 0 < y) : Ok (base_Gcd x y) (fun g => 0 < g ∧ g ∣ x ∧ g ∣ y) := by
  unfold base_Gcd
  have key : Ok (loopO base_Gcd_x1 (x, y)) (fun g => 0 < g ∧ g ∣ x ∧ g ∣ y) := by
    refine loop_ok (fun s : Int × Int => 0 ≤ s.1 ∧ 0 ≤ s.2 ∧ (0 < s.1 ∨ 0 < s.2) ∧ ∀ d : Int, d ∣ s.1 → d ∣ s.2 → d ∣ x ∧ d ∣ y) (fun s => s.2.toNat) ?_ ⟨hx, by omega, .inr hy, fun d h1 h2 => ⟨h1, h2⟩⟩
    rintro ⟨a, b⟩ ⟨h1, h2, h3, h4⟩
    simp only at h1 h2 h3 h4
    unfold base_Gcd_x1
    by_cases hb : b = 0
    · subst hb
      refine .cond (fun hc => by simp at hc) (fun _ => .some ?_)
      have := h4 a (Int.dvd_refl a) ⟨0, by simp⟩
      exact ⟨by omega, this.1, this.2⟩
    · refine .cond (fun _ => ?_) (fun hc => by simp [hb] at hc)
      have lt := Int.tmod_lt_of_pos a (show 0 < b by omega)
      have ge := Int.tmod_nonneg b (show 0 ≤ a by omega)
      refine .gd (by simp [hb]) (.some ⟨⟨by simp only; omega, by simp only; omega, .inl (by simp only; omega), fun d hd1 hd2 => ?_⟩, by simp only; omega⟩)
      simp only at hd1 hd2
      refine h4 d ?_ hd1
      have e := Int.tmod_add_mul_tdiv a b
      rw [← e]
      exact Int.dvd_add hd2 (Int.dvd_trans hd1 ⟨_, rfl⟩)
  obtain ⟨g, e, h⟩ := key
  rw [e]
  exact .some h
theorem le_of_mul {q g a B : Int} (hg : 0 < g) (he : a = g * q) (hB : -B ≤ a ∧ a ≤ B) : -B ≤ q ∧ q ≤ B := by
  subst he
  by_cases hq : 0 ≤ q
  · have : 1 * q ≤ g * q := Int.mul_le_mul_of_nonneg_right (by omega) hq
    omega
  · have : 1 * (-q) ≤ g * (-q) := Int.mul_le_mul_of_nonneg_right (by omega) (by omega)
    simp only [Int.mul_neg, Int.one_mul] at this
    omega
theorem frac1 {a b : Int} (hb : 0 < b) (ha : -9000000000000000000 ≤ a ∧ a ≤ 9000000000000000000) (hb2 : b ≤ 9000000000000000000) : Ok (base_Fraction a b) (fun f => ∃ g : Int, 0 < g ∧ a = g * f.Num ∧ b = g * f.Den) := by
  unfold base_Fraction
  have ei : imax a (IntKind.wrap .i64 (0 - a)) = (a.natAbs : Int) := by
    rw [wrap64 (by omega) (by omega)]
    unfold imax
    split <;> omega
  rw [ei]
  refine (gcd1 (x := (a.natAbs : Int)) (by omega) hb).bind fun g ⟨h1, h2, h3⟩ => ?_
  have h2' : g ∣ a := Int.dvd_natAbs.1 h2
  have e1 : a = g * a.tdiv g := by
    have := Int.mul_tdiv_cancel' h2'
    exact this.symm
  have e2 : b = g * b.tdiv g := (Int.mul_tdiv_cancel' h3).symm
  have b1 := le_of_mul h1 e1 ha
  have b2 := le_of_mul (B := 9000000000000000000) h1 e2 (by omega)
  have g0 : (!(g == 0)) = true := by rw [Bool.not_eq_true', beq_eq_false_iff_ne]; omega
  rw [wrap64 (n := a.tdiv g) (by omega) (by omega), wrap64 (n := b.tdiv g) (by omega) (by omega)]
  simp only [gd_true g0]
  exact .some ⟨g, h1, e1, e2⟩

/-! ### Spans -/
def nxtAt (r : List api_Sample) (e : Int) : Int := match r with
  | [] => e
  | y :: _ => y.At
def spn : List api_Sample → Int → List Sp
  | [], _ => []
  | x :: r, e => ⟨x.At, nxtAt r e, x.Value⟩ :: spn r e
theorem spn_len : ∀ (l : List api_Sample) (e : Int), (spn l e).length = l.length
  | [], _ => rfl
  | x :: r, e => by simp [spn, spn_len r e]
theorem spn_val : ∀ (l : List api_Sample) (e : Int), ∀ x ∈ spn l e, ∃ y ∈ l, x.v = y.Value
  | [], _, x, h => by cases h
  | y :: r, e, x, h => by
    rcases List.mem_cons.1 h with rfl | h
    · exact ⟨y, by simp, rfl⟩
    · obtain ⟨z, hz, e'⟩ := spn_val r e x h
      exact ⟨z, List.mem_cons_of_mem _ hz, e'⟩
/-- Spans from a moment to another one, without gaps. -/
def Ch : Int → Int → List Sp → Prop
  | f, e, [] => f = e
  | f, e, x :: L => x.a = f ∧ x.a < x.b ∧ Ch x.b e L
theorem spn_ch : ∀ (l : List api_Sample) (x : api_Sample) (e : Int), (x :: l).Pairwise (fun a b => a.At < b.At) → (∀ y ∈ x :: l, y.At < e) → Ch x.At e (spn (x :: l) e)
  | [], x, e, _, h => ⟨rfl, h x (by simp), rfl⟩
  | y :: l, x, e, hp, h => by
    rw [List.pairwise_cons] at hp
    exact ⟨rfl, hp.1 y (by simp), spn_ch l y e hp.2 fun z hz => h z (List.mem_cons_of_mem _ hz)⟩
theorem ch_tot : ∀ (L : List Sp) (f e : Int), Ch f e L → tot L = e - f
  | [], f, e, h => by simp only [tot]; have : f = e := h; omega
  | x :: L, f, e, ⟨h1, h2, h3⟩ => by simp only [tot, ch_tot L x.b e h3]; omega
theorem ch_bnd : ∀ (L : List Sp) (f e : Int), Ch f e L → f ≤ e ∧ ∀ x ∈ L, f ≤ x.a ∧ x.a < x.b ∧ x.b ≤ e
  | [], f, e, h => ⟨by have : f = e := h; omega, (fun x hx => nomatch hx)⟩
  | x :: L, f, e, ⟨h1, h2, h3⟩ => by
    obtain ⟨h4, h5⟩ := ch_bnd L x.b e h3
    refine ⟨by omega, fun y hy => ?_⟩
    rcases List.mem_cons.1 hy with rfl | hy
    · exact ⟨by omega, h2, h4⟩
    · have := h5 y hy; omega

theorem spans1 {low : Int} {l : List api_Sample} {w : api_Window} (h : RSer low l) (hlen : l.length ≤ 5000) (h0 : 0 < l.length) (hw : w.From = (l[0]'h0).At) (hw2 : ∀ x ∈ l, x.At < w.To) :
    series_spans l w = some ((spn l w.To).map Sp.s) := by
  have key : ∀ (n i : Nat) (out : List series_span), l.length - i = n → i ≤ l.length → out.length ≤ i → loopO (series_spans_x1 l w) (out, (i : Int)) = some (out ++ (spn (l.drop i) w.To).map Sp.s) := by
    intro n
    induction n with
    | zero =>
      intro i out h1 h2 h3
      have hi : ¬ (i : Int) < l.length := by omega
      rw [List.drop_eq_nil_of_le (by omega), loopO_eq]
      unfold series_spans_x1
      simp [hi, spn]
    | succ n ih =>
      intro i out h1 h2 h3
      have hi : i < l.length := by omega
      have hi' : (i : Int) < l.length := by omega
      have hf : imax l[i].At w.From = l[i].At := by
        rw [hw]
        unfold imax
        by_cases hz : i = 0
        · subst hz; split <;> omega
        · have := List.pairwise_iff_getElem.1 h.inc 0 i h0 hi (by omega)
          split <;> omega
      have hx3 : series_spans_x3 l w i = some (nxtAt (l.drop (i + 1)) w.To) := by
        unfold series_spans_x3
        rw [wrap64 (n := (i : Int) + 1) (by omega) (by omega)]
        by_cases hn : i + 1 < l.length
        · have hn' : (i : Int) + 1 < l.length := by omega
          have ha : at? l ((i : Int) + 1) = some l[i + 1] := by
            rw [show (i : Int) + 1 = ((i + 1 : Nat) : Int) by omega]; exact at_nat hn
          simp only [hn', decide_true, cond_true, ha, Option.bind_some]
          rw [drop_get hn]
          have := hw2 _ (List.getElem_mem hn)
          congr 1
          unfold imin nxtAt
          simp only
          split <;> omega
        · have hn' : ¬ (i : Int) + 1 < l.length := by omega
          simp only [hn', decide_false, cond_false]
          rw [List.drop_eq_nil_of_le (by omega)]
          rfl
      have hlt : l[i].At < nxtAt (l.drop (i + 1)) w.To := by
        by_cases hn : i + 1 < l.length
        · rw [drop_get hn]
          exact List.pairwise_iff_getElem.1 h.inc i (i + 1) hi hn (by omega)
        · rw [List.drop_eq_nil_of_le (by omega)]
          exact hw2 _ (List.getElem_mem hi)
      have hx2 : series_spans_x2 l w out i = some (out ++ [series_span.mk l[i].At (nxtAt (l.drop (i + 1)) w.To) l[i].Value]) := by
        unfold series_spans_x2
        simp only [at_nat hi, Option.bind_some, hx3, hf, hlt, decide_true, cond_true]
        rw [gd_true (ble_lim (by simp; omega))]
      rw [loopO_eq]
      have : series_spans_x1 l w (out, (i : Int)) = some (.inl (out ++ [series_span.mk l[i].At (nxtAt (l.drop (i + 1)) w.To) l[i].Value], (i : Int) + 1)) := by
        unfold series_spans_x1
        simp only [hi', decide_true, cond_true, hx2, Option.bind_some, wrap64 (n := (i : Int) + 1) (by omega) (by omega)]
      rw [this]
      simp only [Option.bind_some]
      rw [show ((i : Int) + 1) = ((i + 1 : Nat) : Int) by omega, ih (i + 1) _ (by omega) (by omega) (by simp; omega), drop_get hi]
      simp [spn, Sp.s]
  unfold series_spans
  have := key l.length 0 [] rfl (by omega) (by simp)
  rw [show ((0 : Nat) : Int) = 0 from rfl, List.drop_zero, List.nil_append] at this
  rw [this]
  rfl

/-! ### The mean -/
def wsum : List Sp → Int
  | [] => 0
  | x :: L => x.v * (x.b - x.a) + wsum L
theorem wsum_bnd {lo hi : Int} : ∀ L : List Sp, (∀ x ∈ L, x.a < x.b ∧ lo ≤ x.v ∧ x.v ≤ hi) → lo * tot L ≤ wsum L ∧ wsum L ≤ hi * tot L
  | [], _ => by simp [tot, wsum]
  | x :: L, h => by
    obtain ⟨h1, h2, h3⟩ := h x (by simp)
    obtain ⟨h4, h5⟩ := wsum_bnd L fun y hy => h y (List.mem_cons_of_mem _ hy)
    have m1 : lo * (x.b - x.a) ≤ x.v * (x.b - x.a) := Int.mul_le_mul_of_nonneg_right h2 (by omega)
    have m2 : x.v * (x.b - x.a) ≤ hi * (x.b - x.a) := Int.mul_le_mul_of_nonneg_right h3 (by omega)
    simp only [tot, wsum, Int.mul_add]
    omega
theorem held1 {L : List Sp} (hl : L.length ≤ 5000) (hL : ∀ x ∈ L, SpOk x) (ht : tot L ≤ 7776000000) :
    loopO (series_Held_x1 (L.map Sp.s)) (0, 0, 0) = some (wsum L, tot L) := by
  let h : Int × Int → Sp → Int × Int := fun s x => (s.1 + x.v * (x.b - x.a), s.2 + (x.b - x.a))
  let I : Nat → Int × Int → Prop := fun i s => (0 ≤ s.2 ∧ s.2 + tot (L.drop i) ≤ 7776000000) ∧ -(s.2 * 1000000000) ≤ s.1 ∧ s.1 ≤ s.2 * 1000000000
  have step : ∀ (i : Nat) (hi : i < L.length) (s : Int × Int), I i s → I (i + 1) (h s L[i]) ∧ IntKind.wrap .i64 (L[i].b - L[i].a) = L[i].b - L[i].a ∧ IntKind.wrap .i64 (L[i].v * (L[i].b - L[i].a)) = L[i].v * (L[i].b - L[i].a) ∧
      IntKind.wrap .i64 (s.1 + L[i].v * (L[i].b - L[i].a)) = s.1 + L[i].v * (L[i].b - L[i].a) ∧ IntKind.wrap .i64 (s.2 + (L[i].b - L[i].a)) = s.2 + (L[i].b - L[i].a) := by
    rintro i hi s ⟨⟨i1, i2⟩, i3, i4⟩
    have ho := hL L[i] (List.getElem_mem hi)
    unfold SpOk at ho
    rw [tot_drop hi] at i2
    have hn := tot_nonneg (L := L.drop (i + 1)) fun x hx => hL x (List.mem_of_mem_drop hx)
    have hd : 0 ≤ L[i].b - L[i].a := by omega
    have m1 : L[i].v * (L[i].b - L[i].a) ≤ 1000000000 * (L[i].b - L[i].a) := Int.mul_le_mul_of_nonneg_right ho.2.2 hd
    have m2 : (-1000000000) * (L[i].b - L[i].a) ≤ L[i].v * (L[i].b - L[i].a) := Int.mul_le_mul_of_nonneg_right ho.2.1 hd
    rw [show h s L[i] = (s.1 + L[i].v * (L[i].b - L[i].a), s.2 + (L[i].b - L[i].a)) from rfl]
    generalize L[i].v * (L[i].b - L[i].a) = p at *
    have e0 : I (i + 1) (s.1 + p, s.2 + (L[i].b - L[i].a)) := ⟨⟨by simp only; omega, by simp only; omega⟩, by simp only; omega, by simp only; omega⟩
    exact ⟨e0, wrap64 (by omega) (by omega), wrap64 (by omega) (by omega), wrap64 (by omega) (by omega), wrap64 (by omega) (by omega)⟩
  have z : I 0 (0, 0) := ⟨⟨by simp, by simp only [List.drop_zero]; omega⟩, by simp, by simp⟩
  have hs : ∀ (i : Nat) (hi : i < L.length), at? (L.map Sp.s) (i : Int) = some L[i].s := fun i hi => by rw [at_nat (by simpa using hi)]; simp
  obtain ⟨e1, i1⟩ := fold_loop (l := L) (f := series_Held_x1 (L.map Sp.s)) (fun s i => (s.1, s.2, i)) h (fun s => (s.1, s.2)) I (s0 := (0, 0)) (by omega) (fun i hi s hs' => by
      obtain ⟨g1, g2, g3, g4, g5⟩ := step i hi s hs'
      refine ⟨?_, g1⟩
      unfold series_Held_x1
      have hlt : (i : Int) < (L.map Sp.s).length := by simp; omega
      simp only [hlt, decide_true, cond_true, hs i hi, Option.bind_some, Sp.s, g2, g3, g4, g5]
      rfl) (fun s _ => by unfold series_Held_x1; simp) z
  have hf : ∀ (L : List Sp) (s : Int × Int), L.foldl h s = (s.1 + wsum L, s.2 + tot L) := by
    intro L
    induction L with
    | nil => intro s; simp [wsum, tot]
    | cons x L ih =>
      intro s
      rw [List.foldl_cons, ih]
      simp only [wsum, tot, h, Prod.mk.injEq]
      omega
  rw [e1, hf]
  simp
end Go.Eng

/-
Buckets: what is gathered, joined and made wider.
-/
namespace Go.Eng
open Go
set_option linter.unusedVariables false
set_option linter.unusedSimpArgs false

def mrg (x b : api_Bucket) : api_Bucket := api_Bucket.mk x.Time (x.Count + b.Count) (x.Sum + b.Sum) (imin x.Min b.Min) (imax x.Max b.Max) x.First b.Last
def sameT (x b : api_Bucket) : Bool := decide (x.Time.From = b.Time.From) && decide (x.Time.To = b.Time.To)
theorem sameT_eq {x b : api_Bucket} (h : sameT x b = true) : x.Time = b.Time := by
  unfold sameT at h
  simp only [Bool.and_eq_true, decide_eq_true_eq] at h
  cases hx : x.Time
  cases hb : b.Time
  rw [hx, hb] at h
  simp only at h
  rw [h.1, h.2]
theorem sameT_of {x b : api_Bucket} (h : x.Time = b.Time) : sameT x b = true := by
  unfold sameT
  rw [h]
  simp
/-- Buckets, the last one ahead, and one more. -/
def addR (r : List api_Bucket) (b : api_Bucket) : List api_Bucket := match r with
  | [] => [b]
  | x :: r => bif sameT x b then mrg x b :: r else b :: x :: r
theorem imin_assoc (a b c : Int) : imin (imin a b) c = imin a (imin b c) := by
  unfold imin
  (repeat' split) <;> omega
theorem imax_assoc (a b c : Int) : imax (imax a b) c = imax a (imax b c) := by
  unfold imax
  (repeat' split) <;> omega
theorem mrg_assoc (x a b : api_Bucket) : mrg (mrg x a) b = mrg x (mrg a b) := by
  unfold mrg
  simp only [imin_assoc, imax_assoc, Int.add_assoc]
theorem addR_assoc (r : List api_Bucket) {a b : api_Bucket} (h : sameT a b = true) : addR (addR r a) b = addR r (mrg a b) := by
  have e := sameT_eq h
  cases r with
  | nil => simp [addR, h]
  | cons x r =>
    simp only [addR]
    have e2 : sameT x (mrg a b) = sameT x a := by unfold sameT mrg; rfl
    rw [e2]
    cases hx : sameT x a with
    | true =>
      simp only [cond_true]
      have e3 : sameT (mrg x a) b = true := sameT_of (by show x.Time = b.Time; rw [sameT_eq hx, e])
      rw [e3]
      simp only [cond_true, mrg_assoc]
    | false =>
      simp only [cond_false]
      rw [h]
      rfl
theorem foldW (W : api_Bucket → api_Bucket) (h1 : ∀ x b, sameT x b = true → W (mrg x b) = mrg (W x) (W b)) (h2 : ∀ x b, sameT x b = true → sameT (W x) (W b) = true) : ∀ (l g r : List api_Bucket),
    ((l.foldl addR g).reverse.map W).foldl addR r = (g.reverse.map W ++ l.map W).foldl addR r
  | [], g, r => by simp
  | b :: l, g, r => by
    rw [List.foldl_cons, foldW W h1 h2 l (addR g b) r, List.foldl_append, List.map_cons, show g.reverse.map W ++ W b :: l.map W = (g.reverse.map W ++ [W b]) ++ l.map W by simp, List.foldl_append]
    congr 1
    cases g with
    | nil => rfl
    | cons x g =>
      simp only [addR]
      cases hx : sameT x b with
      | true =>
        simp only [cond_true, List.reverse_cons, List.map_append, List.map_cons, List.map_nil, List.foldl_append, List.foldl_cons, List.foldl_nil]
        rw [h1 x b hx, addR_assoc _ (h2 x b hx)]
      | false =>
        simp only [cond_false, List.reverse_cons, List.map_append, List.map_cons, List.map_nil, List.foldl_append, List.foldl_cons, List.foldl_nil]

/-! ### Buckets of a series -/
def tw (long at_ : Int) : api_Window := api_Window.mk (at_ / long * long) (at_ / long * long + long)
def one1 (long : Int) (s : api_Sample) : api_Bucket := api_Bucket.mk (tw long s.At) 1 s.Value s.Value s.Value s.Value s.Value
def bks (long : Int) (l : List api_Sample) : List api_Bucket := (l.map (one1 long)).foldl addR []
def cnt : List api_Bucket → Int
  | [] => 0
  | b :: r => b.Count + cnt r
structure GB (long : Int) (b : api_Bucket) : Prop where
  count : 1 ≤ b.Count
  mm : b.Min ≤ b.Max
  first : b.Min ≤ b.First ∧ b.First ≤ b.Max
  last : b.Min ≤ b.Last ∧ b.Last ≤ b.Max
  lo : -1000 ≤ b.Min
  hi : b.Max ≤ 1000
  sum : b.Count * b.Min ≤ b.Sum ∧ b.Sum ≤ b.Count * b.Max
theorem GB.mrg {long : Int} {x b : api_Bucket} (h : GB long x) (g : GB long b) : GB long (mrg x b) := by
  obtain ⟨a1, a2, a3, a4, a5, a6, a7⟩ := h
  obtain ⟨b1, b2, b3, b4, b5, b6, b7⟩ := g
  have m1 : imin x.Min b.Min ≤ x.Min ∧ imin x.Min b.Min ≤ b.Min ∧ -1000 ≤ imin x.Min b.Min := by unfold imin; split <;> omega
  have m2 : x.Max ≤ imax x.Max b.Max ∧ b.Max ≤ imax x.Max b.Max ∧ imax x.Max b.Max ≤ 1000 := by unfold imax; split <;> omega
  refine ⟨?_, ?_, ?_, ?_, ?_, ?_, ?_⟩
  · show 1 ≤ x.Count + b.Count; omega
  · show imin x.Min b.Min ≤ imax x.Max b.Max; omega
  · show imin x.Min b.Min ≤ x.First ∧ x.First ≤ imax x.Max b.Max; omega
  · show imin x.Min b.Min ≤ b.Last ∧ b.Last ≤ imax x.Max b.Max; omega
  · exact m1.2.2
  · exact m2.2.2
  · show (x.Count + b.Count) * imin x.Min b.Min ≤ x.Sum + b.Sum ∧ x.Sum + b.Sum ≤ (x.Count + b.Count) * imax x.Max b.Max
    rw [Int.add_mul, Int.add_mul]
    have c1 := Int.mul_le_mul_of_nonneg_left m1.1 (show 0 ≤ x.Count by omega)
    have c2 := Int.mul_le_mul_of_nonneg_left m1.2.1 (show 0 ≤ b.Count by omega)
    have c3 := Int.mul_le_mul_of_nonneg_left m2.1 (show 0 ≤ x.Count by omega)
    have c4 := Int.mul_le_mul_of_nonneg_left m2.2.1 (show 0 ≤ b.Count by omega)
    omega
theorem cnt_add (r : List api_Bucket) (b : api_Bucket) : cnt (addR r b) = cnt r + b.Count := by
  cases r with
  | nil => simp [addR, cnt]
  | cons x r =>
    simp only [addR]
    cases sameT x b with
    | true => simp only [cond_true, cnt]; show x.Count + b.Count + cnt r = _; omega
    | false => simp only [cond_false, cnt]; omega

structure Gath (long : Int) (l : List api_Sample) (r : List api_Bucket) : Prop where
  good : ∀ b ∈ r, GB long b
  time : ∀ b ∈ r, ∃ s ∈ l, b.Time = tw long s.At
  desc : r.Pairwise fun x y => y.Time.From < x.Time.From
  cnt : cnt r = l.length
  ne : l ≠ [] → r ≠ []
theorem tw_mono {long a b : Int} (hl : 0 < long) (h : a ≤ b) : (tw long a).From ≤ (tw long b).From := by
  show a / long * long ≤ b / long * long
  exact Int.mul_le_mul_of_nonneg_right (Int.ediv_le_ediv hl h) (by omega)
theorem gath_go {long : Int} (hlong : 0 < long) : ∀ (l pre : List api_Sample) (r : List api_Bucket), Gath long pre r → (pre ++ l).Pairwise (fun x y => x.At < y.At) → (∀ x ∈ l, -1000 ≤ x.Value ∧ x.Value ≤ 1000) → Gath long (pre ++ l) ((l.map (one1 long)).foldl addR r)
  | [], pre, r, h, _, _ => by simpa using h
  | s :: l, pre, r, h, hp, hv => by
    rw [List.map_cons, List.foldl_cons, show pre ++ s :: l = (pre ++ [s]) ++ l by simp]
    refine gath_go hlong l (pre ++ [s]) _ ?_ (by simpa using hp) fun x hx => hv x (List.mem_cons_of_mem _ hx)
    have hs := hv s (by simp)
    have hb : GB long (one1 long s) := ⟨Int.le_refl 1, Int.le_refl _, ⟨Int.le_refl _, Int.le_refl _⟩, ⟨Int.le_refl _, Int.le_refl _⟩, hs.1, hs.2, by show 1 * s.Value ≤ s.Value; omega, by show s.Value ≤ 1 * s.Value; omega⟩
    have hle : ∀ b ∈ r, b.Time.From ≤ (one1 long s).Time.From := by
      intro b hb'
      obtain ⟨t, ht, e⟩ := h.time b hb'
      rw [e]
      refine tw_mono hlong ?_
      rw [List.pairwise_append] at hp
      exact Int.le_of_lt (hp.2.2 t ht s (by simp))
    have hto : ∀ b ∈ r, b.Time.To = b.Time.From + long := by
      intro b hb'
      obtain ⟨t, ht, e⟩ := h.time b hb'
      rw [e]; rfl
    have hc : GB.count hb = GB.count hb := rfl
    refine ⟨?_, ?_, ?_, ?_, ?_⟩
    · intro b hb'
      cases r with
      | nil => simp only [addR, List.mem_singleton] at hb'; rw [hb']; exact hb
      | cons x r =>
        simp only [addR] at hb'
        cases hx : sameT x (one1 long s) with
        | true =>
          rw [hx] at hb'
          rcases List.mem_cons.1 hb' with rfl | hb'
          · exact (h.good x (by simp)).mrg hb
          · exact h.good b (List.mem_cons_of_mem _ hb')
        | false =>
          rw [hx] at hb'
          rcases List.mem_cons.1 hb' with rfl | hb'
          · exact hb
          · exact h.good b hb'
    · intro b hb'
      have old : ∀ b ∈ r, ∃ t ∈ pre ++ [s], b.Time = tw long t.At := fun b hb' => by
        obtain ⟨t, ht, e⟩ := h.time b hb'
        exact ⟨t, List.mem_append_left _ ht, e⟩
      cases r with
      | nil => simp only [addR, List.mem_singleton] at hb'; rw [hb']; exact ⟨s, by simp, rfl⟩
      | cons x r =>
        simp only [addR] at hb'
        cases hx : sameT x (one1 long s) with
        | true =>
          rw [hx] at hb'
          rcases List.mem_cons.1 hb' with rfl | hb'
          · exact old x (by simp)
          · exact old b (List.mem_cons_of_mem _ hb')
        | false =>
          rw [hx] at hb'
          rcases List.mem_cons.1 hb' with rfl | hb'
          · exact ⟨s, by simp, rfl⟩
          · exact old b hb'
    · cases r with
      | nil => exact List.pairwise_singleton _ _
      | cons x r =>
        have hd := h.desc
        simp only [addR]
        cases hx : sameT x (one1 long s) with
        | true =>
          simp only [cond_true]
          rw [List.pairwise_cons] at hd ⊢
          exact hd
        | false =>
          simp only [cond_false]
          rw [List.pairwise_cons]
          refine ⟨fun y hy => ?_, hd⟩
          have hlt : x.Time.From < (one1 long s).Time.From := by
            have h1 := hle x (by simp)
            have h2 := hto x (by simp)
            have h3 : (one1 long s).Time.To = (one1 long s).Time.From + long := rfl
            unfold sameT at hx
            simp only [Bool.and_eq_false_iff, decide_eq_false_iff_not] at hx
            omega
          rcases List.mem_cons.1 hy with rfl | hy
          · exact hlt
          · rw [List.pairwise_cons] at hd
            have := hd.1 y hy
            omega
    · rw [cnt_add, h.cnt]
      show (pre.length : Int) + 1 = _
      simp
    · intro _
      cases r with
      | nil => simp [addR]
      | cons x r =>
        simp only [addR]
        cases sameT x (one1 long s) <;> simp
theorem gath {long low : Int} (hlong : 0 < long) {l : List api_Sample} (h : RSer low l) (hlow : -1000 ≤ low) : Gath long l (bks long l) := by
  have := gath_go hlong l [] [] ⟨(fun b hb => nomatch hb), (fun b hb => nomatch hb), .nil, rfl, fun h => absurd rfl h⟩ (by simpa using h.inc) fun x hx => by have := h.val x hx; omega
  unfold bks
  simpa using this

/-! ### Joined and wider -/
theorem bks_append (long : Int) (a b : List api_Sample) : (bks long b).reverse.foldl addR ((bks long a).reverse.foldl addR []) = bks long (a ++ b) := by
  have hid : ∀ (l r : List api_Bucket), (l.foldl addR []).reverse.foldl addR r = l.foldl addR r := by
    intro l r
    have := foldW id (fun _ _ _ => rfl) (fun _ _ h => h) l [] r
    simpa using this
  unfold bks
  rw [hid, hid, List.map_append, List.foldl_append]
def widen (long : Int) (b : api_Bucket) : api_Bucket := api_Bucket.mk (tw long b.Time.From) b.Count b.Sum b.Min b.Max b.First b.Last
theorem widen_one {long times : Int} (hl : 0 < long) (ht : 0 < times) {s : api_Sample} (hs : 0 ≤ s.At) : widen (long * times) (one1 long s) = one1 (long * times) s := by
  unfold widen one1 tw
  simp only
  have e : s.At / long * long / (long * times) = s.At / (long * times) := by
    rw [← Int.ediv_ediv_of_nonneg (show 0 ≤ long by omega), Int.mul_ediv_cancel _ (by omega), Int.ediv_ediv_of_nonneg (show 0 ≤ long by omega)]
  rw [e]
theorem bks_wider {long times low : Int} (hl : 0 < long) (ht : 0 < times) {l : List api_Sample} (h : RSer low l) : ((bks long l).reverse.map (widen (long * times))).foldl addR [] = bks (long * times) l := by
  unfold bks
  rw [foldW (widen (long * times)) (fun x b hxb => ?_) (fun x b hxb => ?_)]
  · simp only [List.reverse_nil, List.map_nil, List.nil_append, List.map_map]
    congr 1
    refine List.map_congr_left fun s hs => ?_
    exact widen_one hl ht (by have := (h.mom s hs).1; omega)
  · unfold widen mrg; rfl
  · refine sameT_of ?_
    show tw _ x.Time.From = tw _ b.Time.From
    rw [sameT_eq hxb]

/-! ### One bucket for all -/
def vsum : List api_Sample → Int
  | [] => 0
  | s :: l => s.Value + vsum l
def lastV : Int → List api_Sample → Int
  | v, [] => v
  | _, s :: l => lastV s.Value l
theorem one_go {long : Int} {t : api_Window} : ∀ (l : List api_Sample) (b : api_Bucket), b.Time = t → (∀ s ∈ l, tw long s.At = t) → ∃ c, (l.map (one1 long)).foldl addR [b] = [c] ∧ c.Count = b.Count + l.length ∧ c.Sum = b.Sum + vsum l ∧ c.First = b.First ∧ c.Last = lastV b.Last l
  | [], b, _, _ => ⟨b, rfl, by simp, by simp [vsum], rfl, rfl⟩
  | s :: l, b, hb, h => by
    have hs : sameT b (one1 long s) = true := sameT_of (by rw [hb]; exact (h s (by simp)).symm)
    obtain ⟨c, h1, h2, h3, h4, h5⟩ := one_go l (mrg b (one1 long s)) hb (fun x hx => h x (List.mem_cons_of_mem _ hx))
    refine ⟨c, ?_, ?_, ?_, h4, h5⟩
    · rw [List.map_cons, List.foldl_cons]
      simp only [addR, hs, cond_true]
      exact h1
    · rw [h2]
      show b.Count + 1 + (l.length : Int) = _
      simp only [List.length_cons]; omega
    · rw [h3]
      show b.Sum + s.Value + vsum l = b.Sum + (s.Value + vsum l)
      omega
theorem one_all {long : Int} {s : api_Sample} {l : List api_Sample} (h : ∀ x ∈ s :: l, tw long x.At = tw long s.At) : ∃ c, bks long (s :: l) = [c] ∧ c.Count = ((s :: l).length : Int) ∧ c.Sum = vsum (s :: l) ∧ c.First = s.Value ∧ c.Last = lastV s.Value l := by
  obtain ⟨c, h1, h2, h3, h4, h5⟩ := one_go (long := long) l (one1 long s) rfl (fun x hx => h x (List.mem_cons_of_mem _ hx))
  refine ⟨c, h1, ?_, ?_, h4, h5⟩
  · rw [h2]; show 1 + (l.length : Int) = _; simp only [List.length_cons]; omega
  · rw [h3]; rfl
end Go.Eng

/-
What Beyond answers for a right series.
-/
namespace Go.Eng
open Go
set_option linter.unusedVariables false
set_option linter.unusedSimpArgs false

/-! ### The last element -/
theorem last_len {α : Type} (l : List α) (y : α) (h : l.length ≤ 100000) : IntKind.wrap .i64 (((l ++ [y]).length : Int) - 1) = (l.length : Int) := by
  rw [wrap64 (by simp only [List.length_append, List.length_singleton]; omega) (by simp only [List.length_append, List.length_singleton]; omega)]
  simp
theorem at_last {α : Type} (l : List α) (y : α) : at? (l ++ [y]) (l.length : Int) = some y := by
  unfold at?
  simp
theorem set_last {α : Type} (l : List α) (y z : α) : (l ++ [y]).set ((l.length : Int)).toNat z = l ++ [z] := by
  rw [Int.toNat_natCast, List.set_append_right _ _ (Nat.le_refl _)]
  simp

/-! ### Beyond -/
def selB (lo hi : Int) (x : Sp) : Bool := decide (x.v < lo) || decide (hi < x.v)
def bstR (lo hi : Int) (R : List api_Window) (x : Sp) : List api_Window := bif selB lo hi x then (match R with
  | [] => [api_Window.mk x.a x.b]
  | y :: R => bif decide (y.To = x.a) then api_Window.mk y.From x.b :: R else api_Window.mk x.a x.b :: y :: R) else R
theorem bstR_len (lo hi : Int) (R : List api_Window) (x : Sp) : (bstR lo hi R x).length ≤ R.length + 1 := by
  unfold bstR
  cases selB lo hi x with
  | false => simp
  | true =>
    cases R with
    | nil => simp
    | cons y R => simp only [cond_true]; cases decide (y.To = x.a) <;> simp
theorem beyond_step {lo hi : Int} {L : List Sp} {R : List api_Window} (hR : R.length ≤ 10000) {i : Nat} (hi' : i < L.length) :
    series_Beyond_x2 lo hi (L.map Sp.s) R.reverse i = some (bstR lo hi R L[i]).reverse := by
  have hs : at? (L.map Sp.s) (i : Int) = some L[i].s := by rw [at_nat (by simpa using hi')]; simp
  unfold series_Beyond_x2 bstR selB
  rw [hs]
  simp only [Option.bind_some, Out_eq, Sp.s]
  cases (decide (L[i].v < lo) || decide (hi < L[i].v)) with
  | false => rfl
  | true =>
    simp only [Bool.not_true, cond_false, cond_true]
    cases R with
    | nil =>
      have w : IntKind.wrap .i64 ((([] : List api_Window).reverse.length : Int) - 1) = -1 := by decide
      unfold series_Beyond_x3
      rw [w]
      simp only [show decide ((0 : Int) ≤ -1) = false from rfl, cond_false, Option.bind_some]
      rw [gd_true (ble_lim (by simp))]
      rfl
    | cons y R =>
      simp only [List.length_cons] at hR
      rw [List.reverse_cons]
      have w := last_len R.reverse y (by simp; omega)
      unfold series_Beyond_x3
      have h0 : (0 : Int) ≤ (R.reverse.length : Int) := by omega
      simp only [w, h0, decide_true, cond_true, at_last, Option.bind_some, set_last]
      cases decide (y.To = L[i].a) with
      | true => simp
      | false =>
        simp only [cond_false]
        rw [gd_true (ble_lim (by simp; omega))]
        simp
theorem beyond_go {lo hi : Int} {L : List Sp} (hl : L.length ≤ 5000) : ∀ (n i : Nat) (R : List api_Window), L.length - i = n → i ≤ L.length → R.length ≤ i → loopO (series_Beyond_x1 lo hi (L.map Sp.s)) (R.reverse, (i : Int)) = some ((L.drop i).foldl (bstR lo hi) R).reverse := by
  intro n
  induction n with
  | zero =>
    intro i R h1 h2 h3
    have hx : ¬ (i : Int) < ((L.map Sp.s).length : Int) := by simp; omega
    rw [List.drop_eq_nil_of_le (by omega), loopO_eq]
    unfold series_Beyond_x1
    simp only [hx, decide_false, cond_false, Option.bind_some]
    rfl
  | succ n ih =>
    intro i R h1 h2 h3
    have hx : i < L.length := by omega
    have hx' : (i : Int) < ((L.map Sp.s).length : Int) := by simp; omega
    have hb := bstR_len lo hi R L[i]
    rw [loopO_eq]
    have : series_Beyond_x1 lo hi (L.map Sp.s) (R.reverse, (i : Int)) = some (.inl ((bstR lo hi R L[i]).reverse, (i : Int) + 1)) := by
      unfold series_Beyond_x1
      simp only [hx', decide_true, cond_true, beyond_step (R := R) (by omega) hx, Option.bind_some, wrap64 (n := (i : Int) + 1) (by omega) (by omega)]
    rw [this]
    simp only [Option.bind_some]
    rw [show ((i : Int) + 1) = ((i + 1 : Nat) : Int) by omega, ih (i + 1) _ (by omega) (by omega) (by omega), drop_get hx, List.foldl_cons]

theorem bst_len (lo hi : Int) : ∀ (L : List Sp) (R : List api_Window), (L.foldl (bstR lo hi) R).length ≤ R.length + L.length
  | [], R => by simp
  | x :: L, R => by
    rw [List.foldl_cons]
    have := bst_len lo hi L (bstR lo hi R x)
    have := bstR_len lo hi R x
    simp only [List.length_cons]; omega
theorem bst_none {lo hi : Int} : ∀ (L : List Sp) (R : List api_Window), (∀ x ∈ L, selB lo hi x = false) → L.foldl (bstR lo hi) R = R
  | [], _, _ => rfl
  | x :: L, R, h => by
    rw [List.foldl_cons]
    have : bstR lo hi R x = R := by unfold bstR; rw [h x (by simp)]; rfl
    rw [this]
    exact bst_none L R fun y hy => h y (List.mem_cons_of_mem _ hy)
theorem bst_all {lo hi : Int} : ∀ (L : List Sp) (f a e : Int), Ch a e L → (∀ x ∈ L, selB lo hi x = true) → L.foldl (bstR lo hi) [api_Window.mk f a] = [api_Window.mk f e]
  | [], f, a, e, h, _ => by
    have : a = e := h
    rw [this]; rfl
  | x :: L, f, a, e, ⟨h1, h2, h3⟩, h => by
    rw [List.foldl_cons]
    have : bstR lo hi [api_Window.mk f a] x = [api_Window.mk f x.b] := by
      unfold bstR
      rw [h x (by simp)]
      simp [h1]
    rw [this]
    exact bst_all L f x.b e h3 fun y hy => h y (List.mem_cons_of_mem _ hy)
def wlen : List api_Window → Int
  | [] => 0
  | y :: R => (y.To - y.From) + wlen R
theorem wlen_app : ∀ a b : List api_Window, wlen (a ++ b) = wlen a + wlen b
  | [], b => by simp [wlen]
  | x :: a, b => by simp only [List.cons_append, wlen, wlen_app a b]; omega
theorem wlen_rev : ∀ a : List api_Window, wlen a.reverse = wlen a
  | [] => rfl
  | x :: a => by rw [List.reverse_cons, wlen_app, wlen_rev a]; simp only [wlen]; omega
def stot (lo hi : Int) : List Sp → Int
  | [] => 0
  | x :: L => (bif selB lo hi x then x.b - x.a else 0) + stot lo hi L
theorem bst_wlen (lo hi : Int) : ∀ (L : List Sp) (R : List api_Window), wlen (L.foldl (bstR lo hi) R) = wlen R + stot lo hi L
  | [], R => by simp [stot]
  | x :: L, R => by
    rw [List.foldl_cons, bst_wlen lo hi L]
    have : wlen (bstR lo hi R x) = wlen R + (bif selB lo hi x then x.b - x.a else 0) := by
      unfold bstR
      cases selB lo hi x with
      | false => simp
      | true =>
        cases R with
        | nil => simp [wlen]
        | cons y R =>
          simp only [cond_true]
          by_cases hy : y.To = x.a
          · simp only [hy, decide_true, cond_true, wlen]; omega
          · simp only [hy, decide_false, cond_false, wlen]; omega
    rw [this]
    simp only [stot]; omega
theorem stot_both {lo hi lo2 hi2 : Int} : ∀ L : List Sp, (∀ x ∈ L, selB lo2 hi2 x = !selB lo hi x) → stot lo hi L + stot lo2 hi2 L = tot L
  | [], _ => rfl
  | x :: L, h => by
    have h1 := stot_both L fun y hy => h y (List.mem_cons_of_mem _ hy)
    have h2 := h x (by simp)
    simp only [stot, tot, h2]
    cases selB lo hi x
    · simp only [cond_false, Bool.not_false, cond_true]; omega
    · simp only [cond_true, Bool.not_true, cond_false]; omega

theorem Beyond_val {low : Int} {l : List api_Sample} {w : api_Window} (h : RSer low l) (hlow : -1000 ≤ low) (hl : l.length ≤ 100) (h0 : 0 < l.length) (hw : w.From = (l[0]'h0).At) (hw2 : ∀ x ∈ l, x.At < w.To) (hw3 : w.To ≤ 1000000) {lo hi : Int} (hlh : lo ≤ hi) :
    series_Beyond l w lo hi = some (((spn l w.To).foldl (bstR lo hi) []).reverse, 0) := by
  have hb := h.bnd hlow
  have hz := h.zero hlow (by omega)
  have m0 := h.mom _ (List.getElem_mem h0)
  have m1 := hw2 _ (List.getElem_mem h0)
  have hwb : windowB w = true := by unfold windowB; simp; omega
  have hg := beyond_go (lo := lo) (hi := hi) (L := spn l w.To) (by rw [spn_len]; omega) _ 0 [] rfl (by omega) (by simp)
  rw [show ((0 : Nat) : Int) = 0 from rfl, List.drop_zero, List.reverse_nil] at hg
  have hn : ¬ hi < lo := by omega
  unfold series_Beyond
  rw [fault_eq w hb (by omega), spans1 h (by omega) h0 hw hw2]
  simp only [Option.bind_some, hz, hwb, or0, if_true, cond_true, decide_true, Bool.not_true, cond_false, hn, decide_false, hg]
theorem Beyond_2_eq (l : List api_Sample) (w : api_Window) (c : Int) : series_Beyond_2 l w c = series_Beyond l w c c := by kernel_rfl

theorem EqualWin1 {l : List api_Window} (hl : (l.length : Int) ≤ 9223372036854775807) : slices_Equal_api_Window_api_Window l l = some true := by
  unfold slices_Equal_api_Window_api_Window
  simp only [decide_true, Bool.not_true, cond_false]
  rw [eqself_loop (n := l.length) hl]
  · rfl
  · intro i hi
    unfold slices_Equal_api_Window_api_Window_x1
    have : ((i : Int) < l.length) := by omega
    simp [this, at_nat hi]
  · unfold slices_Equal_api_Window_api_Window_x1
    simp
end Go.Eng

/-
What Buckets, CheckBuckets, Join and Wider answer for right series.
-/
namespace Go.Eng
open Go
set_option linter.unusedVariables false
set_option linter.unusedSimpArgs false

/-! ### Counts -/
abbrev GBs (r : List api_Bucket) : Prop := ∀ b ∈ r, GB 0 b
theorem cnt_nonneg : ∀ {r : List api_Bucket}, GBs r → (r.length : Int) ≤ cnt r
  | [], _ => by simp [cnt]
  | b :: r, h => by
    have h1 := (h b (by simp)).count
    have h2 := cnt_nonneg (r := r) fun x hx => h x (List.mem_cons_of_mem _ hx)
    simp only [cnt, List.length_cons]; omega
theorem cnt_mem : ∀ {r : List api_Bucket}, GBs r → ∀ b ∈ r, b.Count ≤ cnt r
  | [], _, b, hb => nomatch hb
  | c :: r, h, b, hb => by
    have h1 := (h c (by simp)).count
    have hr : GBs r := fun x hx => h x (List.mem_cons_of_mem _ hx)
    have h2 := cnt_nonneg hr
    simp only [cnt]
    rcases List.mem_cons.1 hb with rfl | hb
    · omega
    · have := cnt_mem hr b hb
      omega
theorem cnt_app : ∀ a b : List api_Bucket, cnt (a ++ b) = cnt a + cnt b
  | [], b => by simp [cnt]
  | x :: a, b => by simp only [List.cons_append, cnt, cnt_app a b]; omega
theorem cnt_rev : ∀ a : List api_Bucket, cnt a.reverse = cnt a
  | [] => rfl
  | x :: a => by rw [List.reverse_cons, cnt_app, cnt_rev a]; simp only [cnt]; omega
theorem gb_add {r : List api_Bucket} {b : api_Bucket} (hr : GBs r) (hb : GB 0 b) : GBs (addR r b) := by
  intro x hx
  cases r with
  | nil => simp only [addR, List.mem_singleton] at hx; rw [hx]; exact hb
  | cons y r =>
    simp only [addR] at hx
    cases hy : sameT y b with
    | true =>
      rw [hy] at hx
      rcases List.mem_cons.1 hx with rfl | hx
      · exact (hr y (by simp)).mrg hb
      · exact hr x (List.mem_cons_of_mem _ hx)
    | false =>
      rw [hy] at hx
      rcases List.mem_cons.1 hx with rfl | hx
      · exact hb
      · exact hr x hx
theorem gb_fold : ∀ (M r : List api_Bucket), GBs r → GBs M → GBs (M.foldl addR r) ∧ cnt (M.foldl addR r) = cnt r + cnt M
  | [], r, hr, _ => ⟨hr, by simp [cnt]⟩
  | b :: M, r, hr, hM => by
    have hb := hM b (by simp)
    obtain ⟨h1, h2⟩ := gb_fold M (addR r b) (gb_add hr hb) fun x hx => hM x (List.mem_cons_of_mem _ hx)
    refine ⟨h1, ?_⟩
    rw [List.foldl_cons, h2, cnt_add]
    simp only [cnt]; omega
theorem gb_sum {b : api_Bucket} (h : GB 0 b) {n : Int} (hn : b.Count ≤ n) (hn2 : n ≤ 10000) : -10000000 ≤ b.Sum ∧ b.Sum ≤ 10000000 ∧ (-10000000 ≤ b.Count * b.Min ∧ b.Count * b.Min ≤ 10000000) ∧ (-10000000 ≤ b.Count * b.Max ∧ b.Count * b.Max ≤ 10000000) := by
  obtain ⟨a1, a2, a3, a4, a5, a6, a7⟩ := h
  have m1 := Int.mul_le_mul_of_nonneg_left a5 (show 0 ≤ b.Count by omega)
  have m2 := Int.mul_le_mul_of_nonneg_left a6 (show 0 ≤ b.Count by omega)
  have m3 := Int.mul_le_mul_of_nonneg_left a2 (show 0 ≤ b.Count by omega)
  omega
theorem take_cnt {M : List api_Bucket} (h : GBs M) (i : Nat) : GBs (M.take i) ∧ cnt (M.take i) ≤ cnt M := by
  refine ⟨fun x hx => h x (List.mem_of_mem_take hx), ?_⟩
  have h1 := cnt_app (M.take i) (M.drop i)
  rw [List.take_append_drop] at h1
  have h2 := cnt_nonneg (r := M.drop i) fun x hx => h x (List.mem_of_mem_drop hx)
  omega

/-! ### One bucket more -/
theorem added_step {M : List api_Bucket} (h : GBs M) (hc : cnt M ≤ 10000) {i : Nat} (hi : i < M.length) :
    series_added_o0 ((M.take i).foldl addR []).reverse M[i] = some ((M.take (i + 1)).foldl addR []).reverse := by
  obtain ⟨t1, t2⟩ := take_cnt h i
  obtain ⟨g1, g2⟩ := gb_fold (M.take i) [] (fun b hb => nomatch hb) t1
  have hbi := h _ (List.getElem_mem hi)
  have hbc := cnt_mem h _ (List.getElem_mem hi)
  have hbs := gb_sum hbi hbc hc
  have hb1 := hbi.count
  rw [List.take_succ_eq_append_getElem hi, List.foldl_append, List.foldl_cons, List.foldl_nil]
  have hcR : cnt ((M.take i).foldl addR []) ≤ 10000 := by
    rw [g2]; simp only [cnt]; omega
  generalize (M.take i).foldl addR [] = R at g1 hcR ⊢
  generalize M[i] = b at hbi hbc hbs hb1 ⊢
  have hlen := cnt_nonneg g1
  unfold series_added_o0 series_added_o0_x1
  cases R with
  | nil =>
    have w : IntKind.wrap .i64 ((([] : List api_Bucket).reverse.length : Int) - 1) = -1 := by decide
    rw [w]
    simp only [show decide ((-1 : Int) < 0) = true from rfl, cond_true, Option.bind_some]
    rw [gd_true (ble_lim (by simp))]
    rfl
  | cons y R =>
    simp only [List.length_cons] at hlen
    have hy := g1 y (by simp)
    have hyc := cnt_mem g1 y (by simp)
    have hys := gb_sum hy hyc hcR
    have hy1 := hy.count
    rw [List.reverse_cons]
    have w := last_len R.reverse y (by simp; omega)
    have h0 : ¬ (R.reverse.length : Int) < 0 := by omega
    simp only [w, h0, decide_false, cond_false, at_last, Option.bind_some, Bool.and_true]
    have hs : (decide (y.Time.From = b.Time.From) && decide (y.Time.To = b.Time.To)) = sameT y b := rfl
    rw [hs]
    simp only [addR]
    cases hsb : sameT y b with
    | true =>
      simp only [Bool.not_true, cond_false, cond_true, List.set_set, set_last]
      rw [wrap64 (n := y.Count + b.Count) (by omega) (by omega), wrap64 (n := y.Sum + b.Sum) (by omega) (by omega)]
      simp only [List.reverse_cons]
      rfl
    | false =>
      simp only [Bool.not_false, cond_true, cond_false]
      rw [gd_true (ble_lim (by simp; omega))]
      simp

/-! ### Buckets -/
theorem one1_gb {low long : Int} {l : List api_Sample} (h : RSer low l) (hlow : -1000 ≤ low) : GBs (l.map (one1 long)) ∧ cnt (l.map (one1 long)) = l.length := by
  refine ⟨fun b hb => ?_, ?_⟩
  · obtain ⟨s, hs, rfl⟩ := List.mem_map.1 hb
    have hv := h.val s hs
    exact ⟨Int.le_refl 1, Int.le_refl _, ⟨Int.le_refl _, Int.le_refl _⟩, ⟨Int.le_refl _, Int.le_refl _⟩, by show -1000 ≤ s.Value; omega, by show s.Value ≤ 1000; omega, by show 1 * s.Value ≤ s.Value; omega, by show s.Value ≤ 1 * s.Value; omega⟩
  · have : ∀ l : List api_Sample, cnt (l.map (one1 long)) = l.length := by
      intro l
      induction l with
      | nil => rfl
      | cons x l ih =>
        simp only [List.map_cons, cnt, ih, List.length_cons]
        show 1 + (l.length : Int) = _
        omega
    exact this l
theorem buckets_go {low long : Int} {l : List api_Sample} (h : RSer low l) (hlow : -1000 ≤ low) (hl : l.length ≤ 100) (hlong : 1 ≤ long ∧ long ≤ 1000000) :
    ∀ (n i : Nat), l.length - i = n → i ≤ l.length → loopO (series_Buckets_x1 l (api_Window.mk 0 100000) long) ((((l.map (one1 long)).take i).foldl addR []).reverse, (i : Int)) = some (bks long l).reverse := by
  obtain ⟨m1, m2⟩ := one1_gb (long := long) h hlow
  intro n
  induction n with
  | zero =>
    intro i h1 h2
    have hi : ¬ (i : Int) < l.length := by omega
    rw [List.take_of_length_le (by simp; omega), loopO_eq]
    unfold series_Buckets_x1
    simp only [hi, decide_false, cond_false, Option.bind_some]
    rfl
  | succ n ih =>
    intro i h1 h2
    have hi : i < l.length := by omega
    have hi' : (i : Int) < l.length := by omega
    have hm := h.mom _ (List.getElem_mem hi)
    have hiM : i < (l.map (one1 long)).length := by simpa using hi
    have hstep := added_step m1 (by omega) hiM
    have hin : inW (api_Window.mk 0 100000) l[i] = true := by unfold inW; simp; omega
    have hq0 : 0 ≤ l[i].At / long := Int.ediv_nonneg (by omega) (by omega)
    have hq1 : l[i].At / long * long ≤ l[i].At := Int.ediv_mul_le _ (by omega)
    have hq2 : l[i].At / long ≤ l[i].At := Int.ediv_le_self _ (by omega)
    have hq3 : 0 ≤ l[i].At / long * long := Int.mul_nonneg hq0 (by omega)
    have e1 : IntKind.wrap .i64 (l[i].At.tdiv long) = l[i].At / long := by rw [Int.tdiv_eq_ediv_of_nonneg (by omega), wrap64 (by omega) (by omega)]
    have e2 : IntKind.wrap .i64 (l[i].At / long * long) = l[i].At / long * long := wrap64 (by omega) (by omega)
    have e3 : IntKind.wrap .i64 (l[i].At / long * long + long) = l[i].At / long * long + long := wrap64 (by omega) (by omega)
    have hg : (!(long == 0)) = true := by simp; omega
    rw [List.getElem_map] at hstep
    have hx2 : series_Buckets_x2 l (api_Window.mk 0 100000) long (((l.map (one1 long)).take i).foldl addR []).reverse i = some (((l.map (one1 long)).take (i + 1)).foldl addR []).reverse := by
      unfold series_Buckets_x2
      simp only [at_nat hi, Option.bind_some, series_in_eq, hin, cond_true, gd_true hg, e1, e2, e3]
      have : series_added_o0 (((l.map (one1 long)).take i).foldl addR []).reverse (api_Bucket.mk (api_Window.mk (l[i].At / long * long) (l[i].At / long * long + long)) 1 l[i].Value l[i].Value l[i].Value l[i].Value l[i].Value) = some (((l.map (one1 long)).take (i + 1)).foldl addR []).reverse := hstep
      rw [this]
      rfl
    rw [loopO_eq]
    have : series_Buckets_x1 l (api_Window.mk 0 100000) long ((((l.map (one1 long)).take i).foldl addR []).reverse, (i : Int)) = some (.inl ((((l.map (one1 long)).take (i + 1)).foldl addR []).reverse, ((i + 1 : Nat) : Int))) := by
      unfold series_Buckets_x1
      simp only [hi', decide_true, cond_true, hx2, Option.bind_some, wrap64 (n := (i : Int) + 1) (by omega) (by omega)]
      rfl
    rw [this]
    simp only [Option.bind_some]
    exact ih (i + 1) (by omega) (by omega)
theorem Buckets_val {low long : Int} {l : List api_Sample} (h : RSer low l) (hlow : -1000 ≤ low) (hl : l.length ≤ 100) (hlong : 1 ≤ long ∧ long ≤ 1000000) : series_Buckets l (api_Window.mk 0 100000) long = some ((bks long l).reverse, 0) := by
  have hb := h.bnd hlow
  have hz := h.zero hlow (by omega)
  have hg := buckets_go h hlow hl hlong _ 0 rfl (by omega)
  rw [show ((0 : Nat) : Int) = 0 from rfl, List.take_zero, List.foldl_nil, List.reverse_nil] at hg
  have hwb : windowB (api_Window.mk 0 100000) = true := by decide
  have n1 : ¬ long < 1 := by omega
  have n2 : ¬ (345686400000 : Int) < long := by omega
  unfold series_Buckets
  rw [fault_eq _ hb (by omega), Out_eq]
  simp only [Option.bind_some, hz, hwb, or0, if_true, cond_true, decide_true, Bool.not_true, cond_false, n1, n2, decide_false, Bool.or_self, hg]

/-! ### CheckBuckets -/
structure VBs (long : Int) (Q : List api_Bucket) : Prop where
  good : GBs Q
  few : cnt Q ≤ 1000
  time : ∀ b ∈ Q, ∃ at_ : Int, (0 ≤ at_ ∧ at_ ≤ 100000) ∧ b.Time = tw long at_
  asc : Q.Pairwise fun x y => x.Time.From < y.Time.From
theorem tw_bnd {long at_ : Int} (hl : 1 ≤ long) (h : 0 ≤ at_ ∧ at_ ≤ 100000) : 0 ≤ (tw long at_).From ∧ (tw long at_).From ≤ 100000 ∧ (tw long at_).To = (tw long at_).From + long ∧ (tw long at_).From % long = 0 := by
  unfold tw
  simp only
  have hq0 : 0 ≤ at_ / long := Int.ediv_nonneg (by omega) (by omega)
  have hq1 : at_ / long * long ≤ at_ := Int.ediv_mul_le _ (by omega)
  have hq3 : 0 ≤ at_ / long * long := Int.mul_nonneg hq0 (by omega)
  exact ⟨hq3, by omega, trivial, Int.mul_emod_left _ _⟩
theorem vbs_of {low long : Int} {l : List api_Sample} (hlong : 1 ≤ long) (h : RSer low l) (hlow : -1000 ≤ low) (hl : l.length ≤ 100) : VBs long (bks long l).reverse := by
  have g := gath (long := long) (by omega) h hlow
  refine ⟨fun b hb => ?_, ?_, fun b hb => ?_, ?_⟩
  · obtain ⟨a1, a2, a3, a4, a5, a6, a7⟩ := g.good b (List.mem_reverse.1 hb)
    exact ⟨a1, a2, a3, a4, a5, a6, a7⟩
  · rw [cnt_rev, g.cnt]; omega
  · obtain ⟨s, hs, e⟩ := g.time b (List.mem_reverse.1 hb)
    have := h.mom s hs
    exact ⟨s.At, by omega, e⟩
  · rw [List.pairwise_reverse]; exact g.desc
theorem check_ok {long : Int} {Q : List api_Bucket} (h : VBs long Q) (hlong : 1 ≤ long ∧ long ≤ 1000000) : series_CheckBuckets Q = some 0 := by
  have hlen := cnt_nonneg h.good
  have hfew := h.few
  have n0 : ¬ (5000 : Int) < Q.length := by omega
  unfold series_CheckBuckets
  simp only [n0, decide_false, cond_false]
  rw [range_loop (l := Q) (fun _ _ => none) (.inl ()) (by omega)]
  · have : scan (fun (_ : Nat) (_ : api_Bucket) => (none : Option (Unit ⊕ Int))) 0 Q = none := scan_none.2 fun _ _ _ => rfl
    rw [this]
    rfl
  · intro i hi
    have hi' : (i : Int) < Q.length := by omega
    have hm := List.getElem_mem hi
    have hg := h.good _ hm
    obtain ⟨a1, a2, a3, a4, a5, a6, a7⟩ := hg
    have hc := cnt_mem h.good _ hm
    have hs := gb_sum (h.good _ hm) hc (by omega)
    obtain ⟨t, ht, et⟩ := h.time _ hm
    obtain ⟨b1, b2, b3, b4⟩ := tw_bnd hlong.1 ht
    rw [← et] at b1 b2 b3 b4
    have h0 : 0 < Q.length := by omega
    obtain ⟨t0, ht0, et0⟩ := h.time _ (List.getElem_mem h0)
    obtain ⟨c1, c2, c3, c4⟩ := tw_bnd hlong.1 ht0
    rw [← et0] at c1 c2 c3 c4
    have x2 : series_CheckBuckets_x2 Q[i] = some false := by
      unfold series_CheckBuckets_x2
      have m1 : ¬ Q[i].Time.From < 0 := by omega
      have m2 : ¬ Q[i].Time.To ≤ Q[i].Time.From := by omega
      have m3 : ¬ (691372800000 : Int) < Q[i].Time.To := by omega
      simp only [m1, m2, m3, decide_false, cond_false]
    have x3 : series_CheckBuckets_x3 Q Q[i] = some false := by
      unfold series_CheckBuckets_x3
      rw [wrap64 (n := Q[i].Time.To - Q[i].Time.From) (by omega) (by omega)]
      rw [show at? Q 0 = some Q[0] from at_nat (n := 0) h0]
      simp only [Option.bind_some]
      rw [wrap64 (n := Q[0].Time.To - Q[0].Time.From) (by omega) (by omega)]
      have m1 : Q[i].Time.To - Q[i].Time.From = Q[0].Time.To - Q[0].Time.From := by omega
      have m2 : (!(Q[0].Time.To - Q[0].Time.From == 0)) = true := by simp; omega
      have m3 : Q[i].Time.From.tmod (Q[0].Time.To - Q[0].Time.From) = 0 := by
        rw [Int.tmod_eq_emod_of_nonneg b1, show Q[0].Time.To - Q[0].Time.From = long by omega]; exact b4
      simp only [m1, decide_true, Bool.not_true, cond_false, gd_true m2, m3]
    have x4 : series_CheckBuckets_x4 Q[i] = some false := by
      unfold series_CheckBuckets_x4
      have m1 : ¬ Q[i].Max < Q[i].Min := by omega
      have m2 : ¬ Q[i].First < Q[i].Min := by omega
      have m3 : ¬ Q[i].Max < Q[i].First := by omega
      have m4 : ¬ Q[i].Last < Q[i].Min := by omega
      have m5 : ¬ Q[i].Max < Q[i].Last := by omega
      simp only [Out_eq, m1, m2, m3, m4, m5, decide_false, Bool.or_self, cond_false, Option.bind_some]
    have x5 : series_CheckBuckets_x5 Q[i] = some false := by
      unfold series_CheckBuckets_x5
      have m1 : ¬ Q[i].Min < -1000000000 := by omega
      have m2 : ¬ (1000000000 : Int) < Q[i].Max := by omega
      simp only [m1, m2, decide_false, cond_false]
    have x6 : series_CheckBuckets_x6 Q i Q[i] = some false := by
      unfold series_CheckBuckets_x6
      by_cases hz : (0 : Int) < i
      · have w : IntKind.wrap .i64 ((i : Int) - 1) = ((i - 1 : Nat) : Int) := by rw [wrap64 (by omega) (by omega)]; omega
        have hlt := List.pairwise_iff_getElem.1 h.asc (i - 1) i (by omega) hi (by omega)
        have m1 : ¬ Q[i].Time.From ≤ (Q[i - 1]'(by omega)).Time.From := by omega
        simp only [hz, decide_true, cond_true, w, at_nat (l := Q) (n := i - 1) (by omega), Option.bind_some, m1, decide_false]
      · simp only [hz, decide_false, cond_false]
    have m1 : ¬ Q[i].Count < 1 := by omega
    have m2 : ¬ (5000 : Int) < Q[i].Count := by omega
    have m3 : ¬ Q[i].Sum < Q[i].Count * Q[i].Min := by omega
    have m4 : ¬ Q[i].Count * Q[i].Max < Q[i].Sum := by omega
    unfold series_CheckBuckets_x1
    simp only [hi', decide_true, cond_true, at_nat hi, Option.bind_some, x2, x3, x4, x5, x6, cond_false, Out_eq, m1, m2, decide_false, Bool.or_self]
    rw [wrap64 (n := Q[i].Count * Q[i].Min) (by omega) (by omega), wrap64 (n := Q[i].Count * Q[i].Max) (by omega) (by omega)]
    simp only [m3, m4, decide_false, Bool.or_self, cond_false]
  · unfold series_CheckBuckets_x1
    simp
end Go.Eng

/-
What Join and Wider answer.
-/
namespace Go.Eng
open Go
set_option linter.unusedVariables false
set_option linter.unusedSimpArgs false

theorem bounded_ok {Q : List api_Bucket} (h : GBs Q) (hc : cnt Q ≤ 1000) : series_bounded_o0 Q = some (Q, 0) := by
  have hlen := cnt_nonneg h
  have n0 : ¬ (5000 : Int) < Q.length := by omega
  unfold series_bounded_o0
  simp only [n0, decide_false, cond_false]
  rw [range_loop (l := Q) (fun _ _ => none) (.inl ()) (by omega)]
  · have : scan (fun (_ : Nat) (_ : api_Bucket) => (none : Option (Unit ⊕ Unit))) 0 Q = none := scan_none.2 fun _ _ _ => rfl
    rw [this]
    rfl
  · intro i hi
    have hi' : (i : Int) < Q.length := by omega
    have hcm := cnt_mem h _ (List.getElem_mem hi)
    have m1 : ¬ (5000 : Int) < Q[i].Count := by omega
    unfold series_bounded_o0_x1
    simp only [hi', decide_true, cond_true, at_nat hi, Option.bind_some, m1, decide_false, cond_false]
  · unfold series_bounded_o0_x1
    simp
theorem length_ok {long : Int} {Q : List api_Bucket} (h : VBs long Q) (hlong : 1 ≤ long ∧ long ≤ 1000000) (h0 : 0 < Q.length) : series_length Q = some long := by
  obtain ⟨t0, ht0, et0⟩ := h.time _ (List.getElem_mem h0)
  obtain ⟨c1, c2, c3, c4⟩ := tw_bnd hlong.1 ht0
  rw [← et0] at c1 c2 c3 c4
  have m1 : ¬ (Q.length : Int) = 0 := by omega
  unfold series_length
  simp only [m1, decide_false, cond_false]
  rw [show at? Q 0 = some Q[0] from at_nat (n := 0) h0]
  simp only [Option.bind_some]
  rw [wrap64 (by omega) (by omega)]
  congr 1; omega

/-! ### Join -/
theorem sub_rest {α : Type} (x : α) (r : List α) : sub? (x :: r) 1 ((x :: r).length : Int) = some r := by
  unfold sub?
  rw [if_pos ⟨by omega, by simp; omega, Int.le_refl _⟩]
  simp
theorem join_go {A B : List api_Bucket} (h : GBs (A ++ B)) (hc : cnt (A ++ B) ≤ 1000) (hAB : ∀ a ∈ A, ∀ b ∈ B, a.Time.From ≤ b.Time.From) :
    ∀ (n k : Nat), (A ++ B).length - k = n → k ≤ (A ++ B).length → loopO series_Join_x2 (A.drop k, B.drop (k - A.length), (((A ++ B).take k).foldl addR []).reverse) = some ((A ++ B).foldl addR []).reverse := by
  intro n
  induction n with
  | zero =>
    intro k h1 h2
    have hk : k = (A ++ B).length := by omega
    have hk2 : A.length ≤ k := by rw [hk]; simp
    have hk3 : B.length ≤ k - A.length := by rw [hk]; simp
    rw [List.drop_eq_nil_of_le hk2, List.drop_eq_nil_of_le hk3, List.take_of_length_le (by omega), loopO_eq]
    unfold series_Join_x2 series_Join_x3
    simp only [List.length_nil, Int.lt_irrefl, decide_false, cond_false, Option.bind_some, show ((0 : Nat) : Int) = 0 from rfl]
  | succ n ih =>
    intro k h1 h2
    have hk : k < (A ++ B).length := by omega
    have hstep := added_step h (by omega) hk
    rw [loopO_eq]
    by_cases hA : k < A.length
    · have e1 : (A ++ B)[k] = A[k] := List.getElem_append_left hA
      rw [e1] at hstep
      have hB0 : k - A.length = 0 := by omega
      rw [drop_get hA, hB0, List.drop_zero]
      have x3 : series_Join_x3 (A[k] :: A.drop (k + 1)) B = some true := by
        unfold series_Join_x3
        have : (0 : Int) < ((A[k] :: A.drop (k + 1)).length : Int) := by simp; omega
        simp only [this, decide_true, cond_true]
      have x4 : series_Join_x4 (A[k] :: A.drop (k + 1)) B = some true := by
        unfold series_Join_x4
        by_cases hb : (B.length : Int) = 0
        · simp only [hb, decide_true, cond_true]
        · have h0 : 0 < B.length := by omega
          have : (0 : Int) < ((A[k] :: A.drop (k + 1)).length : Int) := by simp; omega
          simp only [hb, decide_false, cond_false, this, decide_true, cond_true]
          rw [show at? (A[k] :: A.drop (k + 1)) 0 = some A[k] from rfl, show at? B 0 = some B[0] from at_nat (n := 0) h0]
          simp only [Option.bind_some]
          have := hAB _ (List.getElem_mem hA) _ (List.getElem_mem h0)
          simp only [this, decide_true]
      have hadd : series_added_o0 (((A ++ B).take k).foldl addR []).reverse (api_Bucket.mk (api_Window.mk A[k].Time.From A[k].Time.To) A[k].Count A[k].Sum A[k].Min A[k].Max A[k].First A[k].Last) = some (((A ++ B).take (k + 1)).foldl addR []).reverse := hstep
      have hx : series_Join_x2 (A[k] :: A.drop (k + 1), B, (((A ++ B).take k).foldl addR []).reverse) = some (.inl (A.drop (k + 1), B, (((A ++ B).take (k + 1)).foldl addR []).reverse)) := by
        unfold series_Join_x2
        simp only [x3, x4, Option.bind_some, cond_true]
        rw [show at? (A[k] :: A.drop (k + 1)) 0 = some A[k] from rfl]
        simp only [Option.bind_some, hadd, sub_rest]
      rw [hx]
      simp only [Option.bind_some]
      have := ih (k + 1) (by omega) (by omega)
      rw [show k + 1 - A.length = 0 by omega, List.drop_zero] at this
      exact this
    · have hlen : (A ++ B).length = A.length + B.length := List.length_append
      have hj : k - A.length < B.length := by omega
      have e1 : (A ++ B)[k] = B[k - A.length] := List.getElem_append_right (by omega)
      rw [e1] at hstep
      rw [List.drop_eq_nil_of_le (show A.length ≤ k by omega), drop_get hj]
      have hpos : (0 : Int) < ((B[k - A.length] :: B.drop (k - A.length + 1)).length : Int) := by simp; omega
      have x3 : series_Join_x3 [] (B[k - A.length] :: B.drop (k - A.length + 1)) = some true := by
        unfold series_Join_x3
        simp only [List.length_nil, show ((0 : Nat) : Int) = 0 from rfl, Int.lt_irrefl, decide_false, cond_false, hpos, decide_true]
      have x4 : series_Join_x4 [] (B[k - A.length] :: B.drop (k - A.length + 1)) = some false := by
        unfold series_Join_x4
        have : ¬ ((B[k - A.length] :: B.drop (k - A.length + 1)).length : Int) = 0 := by omega
        simp only [this, decide_false, cond_false, List.length_nil, show ((0 : Nat) : Int) = 0 from rfl, Int.lt_irrefl]
      have hadd : series_added_o0 (((A ++ B).take k).foldl addR []).reverse (api_Bucket.mk (api_Window.mk B[k - A.length].Time.From B[k - A.length].Time.To) B[k - A.length].Count B[k - A.length].Sum B[k - A.length].Min B[k - A.length].Max B[k - A.length].First B[k - A.length].Last) = some (((A ++ B).take (k + 1)).foldl addR []).reverse := hstep
      have hx : series_Join_x2 ([], B[k - A.length] :: B.drop (k - A.length + 1), (((A ++ B).take k).foldl addR []).reverse) = some (.inl ([], B.drop (k - A.length + 1), (((A ++ B).take (k + 1)).foldl addR []).reverse)) := by
        unfold series_Join_x2
        simp only [x3, x4, Option.bind_some, cond_true, cond_false]
        rw [show at? (B[k - A.length] :: B.drop (k - A.length + 1)) 0 = some B[k - A.length] from rfl]
        simp only [Option.bind_some, hadd, sub_rest]
      rw [hx]
      simp only [Option.bind_some]
      have := ih (k + 1) (by omega) (by omega)
      rw [List.drop_eq_nil_of_le (show A.length ≤ k + 1 by omega), show k + 1 - A.length = k - A.length + 1 by omega] at this
      exact this
theorem Join_val {long : Int} {A B : List api_Bucket} (ha : VBs long A) (hb : VBs long B) (hlong : 1 ≤ long ∧ long ≤ 1000000) (hc : cnt A + cnt B ≤ 1000) (hAB : ∀ a ∈ A, ∀ b ∈ B, a.Time.From ≤ b.Time.From) :
    series_Join A B = some (((A ++ B).foldl addR []).reverse, 0) := by
  have hG : GBs (A ++ B) := fun x hx => by
    rcases List.mem_append.1 hx with hx | hx
    · exact ha.good x hx
    · exact hb.good x hx
  have hcc : cnt (A ++ B) ≤ 1000 := by rw [cnt_app]; exact hc
  have hj := join_go hG hcc hAB _ 0 rfl (by omega)
  rw [Nat.zero_sub, List.drop_zero, List.drop_zero, List.take_zero, List.foldl_nil, List.reverse_nil] at hj
  have hf : base_First [0, 0] = some 0 := by kernel_rfl
  obtain ⟨f1, f2⟩ := gb_fold (A ++ B) [] (fun b hb => nomatch hb) hG
  have hbo := bounded_ok (Q := ((A ++ B).foldl addR []).reverse) (fun x hx => f1 x (List.mem_reverse.1 hx)) (by rw [cnt_rev, f2]; simp only [cnt]; omega)
  have x1 : series_Join_x1 A B = some false := by
    unfold series_Join_x1
    by_cases h1 : (0 : Int) < A.length
    · by_cases h2 : (0 : Int) < B.length
      · simp only [h1, h2, decide_true, cond_true, length_ok ha hlong (show 0 < A.length by omega), length_ok hb hlong (show 0 < B.length by omega), Option.bind_some, Bool.not_true]
      · simp only [h1, h2, decide_true, cond_true, decide_false, cond_false]
    · simp only [h1, decide_false, cond_false]
  unfold series_Join
  simp only [check_ok ha hlong, check_ok hb hlong, Option.bind_some, hf, decide_true, Bool.not_true, cond_false, x1, hj, hbo]

/-! ### Wider -/
theorem wider_go {long L : Int} {Q : List api_Bucket} (h : VBs long Q) (hL : 1 ≤ L ∧ L ≤ 1000000) (hlong : 1 ≤ long) :
    ∀ (n i : Nat), Q.length - i = n → i ≤ Q.length → loopO (series_Wider_x2 Q L) ((((Q.map (widen L)).take i).foldl addR []).reverse, (i : Int)) = some ((Q.map (widen L)).foldl addR []).reverse := by
  have hG : GBs (Q.map (widen L)) := fun b hb => by
    obtain ⟨q, hq, rfl⟩ := List.mem_map.1 hb
    obtain ⟨a1, a2, a3, a4, a5, a6, a7⟩ := h.good q hq
    exact ⟨a1, a2, a3, a4, a5, a6, a7⟩
  have hcw : ∀ Q : List api_Bucket, cnt (Q.map (widen L)) = cnt Q := by
    intro Q
    induction Q with
    | nil => rfl
    | cons b Q ih => simp only [List.map_cons, cnt, ih]; rfl
  have hc : cnt (Q.map (widen L)) ≤ 10000 := by rw [hcw]; have := h.few; omega
  have hlenQ := cnt_nonneg h.good
  have hfew := h.few
  intro n
  induction n with
  | zero =>
    intro i h1 h2
    have hi : ¬ (i : Int) < Q.length := by omega
    rw [List.take_of_length_le (by simp; omega), loopO_eq]
    unfold series_Wider_x2
    simp only [hi, decide_false, cond_false, Option.bind_some]
  | succ n ih =>
    intro i h1 h2
    have hi : i < Q.length := by omega
    have hi' : (i : Int) < Q.length := by omega
    have hiM : i < (Q.map (widen L)).length := by simpa using hi
    have hstep := added_step hG hc hiM
    obtain ⟨t, ht, et⟩ := h.time _ (List.getElem_mem hi)
    obtain ⟨b1, b2, b3, b4⟩ := tw_bnd hlong ht
    rw [← et] at b1 b2 b3 b4
    have hq0 : 0 ≤ Q[i].Time.From / L := Int.ediv_nonneg (by omega) (by omega)
    have hq1 : Q[i].Time.From / L * L ≤ Q[i].Time.From := Int.ediv_mul_le _ (by omega)
    have hq2 : Q[i].Time.From / L ≤ Q[i].Time.From := Int.ediv_le_self _ (by omega)
    have hq3 : 0 ≤ Q[i].Time.From / L * L := Int.mul_nonneg hq0 (by omega)
    have e1 : IntKind.wrap .i64 (Q[i].Time.From.tdiv L) = Q[i].Time.From / L := by rw [Int.tdiv_eq_ediv_of_nonneg (by omega), wrap64 (by omega) (by omega)]
    have e2 : IntKind.wrap .i64 (Q[i].Time.From / L * L) = Q[i].Time.From / L * L := wrap64 (by omega) (by omega)
    have e3 : IntKind.wrap .i64 (Q[i].Time.From / L * L + L) = Q[i].Time.From / L * L + L := wrap64 (by omega) (by omega)
    have hg : (!(L == 0)) = true := by simp; omega
    rw [List.getElem_map] at hstep
    have hadd : series_added_o0 (((Q.map (widen L)).take i).foldl addR []).reverse (api_Bucket.mk (api_Window.mk (Q[i].Time.From / L * L) (Q[i].Time.From / L * L + L)) Q[i].Count Q[i].Sum Q[i].Min Q[i].Max Q[i].First Q[i].Last) = some (((Q.map (widen L)).take (i + 1)).foldl addR []).reverse := hstep
    rw [loopO_eq]
    have : series_Wider_x2 Q L ((((Q.map (widen L)).take i).foldl addR []).reverse, (i : Int)) = some (.inl ((((Q.map (widen L)).take (i + 1)).foldl addR []).reverse, ((i + 1 : Nat) : Int))) := by
      unfold series_Wider_x2
      simp only [hi', decide_true, cond_true, at_nat hi, Option.bind_some, gd_true hg, e1, e2, e3, hadd, wrap64 (n := (i : Int) + 1) (by omega) (by omega)]
      rfl
    rw [this]
    simp only [Option.bind_some]
    exact ih (i + 1) (by omega) (by omega)
theorem Wider_val {long L : Int} {Q : List api_Bucket} (h : VBs long Q) (hlong : 1 ≤ long ∧ long ≤ 1000000) (hL : 1 ≤ L ∧ L ≤ 1000000) (hd : L % long = 0) :
    series_Wider Q L = some (((Q.map (widen L)).foldl addR []).reverse, 0) := by
  have hw := wider_go (L := L) h hL hlong.1 _ 0 rfl (by omega)
  rw [show ((0 : Nat) : Int) = 0 from rfl, List.take_zero, List.foldl_nil, List.reverse_nil] at hw
  have hG : GBs (Q.map (widen L)) := fun b hb => by
    obtain ⟨q, hq, rfl⟩ := List.mem_map.1 hb
    obtain ⟨a1, a2, a3, a4, a5, a6, a7⟩ := h.good q hq
    exact ⟨a1, a2, a3, a4, a5, a6, a7⟩
  have hcw : ∀ Q : List api_Bucket, cnt (Q.map (widen L)) = cnt Q := by
    intro Q
    induction Q with
    | nil => rfl
    | cons b Q ih => simp only [List.map_cons, cnt, ih]; rfl
  obtain ⟨f1, f2⟩ := gb_fold (Q.map (widen L)) [] (fun b hb => nomatch hb) hG
  have hfew := h.few
  have hbo := bounded_ok (Q := ((Q.map (widen L)).foldl addR []).reverse) (fun x hx => f1 x (List.mem_reverse.1 hx)) (by rw [cnt_rev, f2, hcw]; simp only [cnt]; omega)
  have x1 : series_Wider_x1 Q L = some false := by
    unfold series_Wider_x1
    have m1 : ¬ L < 1 := by omega
    have m2 : ¬ (345686400000 : Int) < L := by omega
    simp only [Out_eq, m1, m2, decide_false, Bool.or_self, Option.bind_some, cond_false]
    by_cases h0 : (0 : Int) < Q.length
    · have hg : (!(long == 0)) = true := by simp; omega
      have ht : L.tmod long = 0 := by rw [Int.tmod_eq_emod_of_nonneg (by omega)]; exact hd
      simp only [h0, decide_true, cond_true, length_ok h hlong (show 0 < Q.length by omega), Option.bind_some, gd_true hg, ht, Bool.not_true]
    · simp only [h0, decide_false, cond_false]
  unfold series_Wider
  simp only [check_ok h hlong, Option.bind_some, decide_true, Bool.not_true, cond_false, x1, hw, hbo]

theorem EqualB_self {l : List api_Bucket} (hl : (l.length : Int) ≤ 9223372036854775807) : slices_Equal_api_Bucket_api_Bucket l l = some true := by
  unfold slices_Equal_api_Bucket_api_Bucket
  simp only [decide_true, Bool.not_true, cond_false]
  rw [eqself_loop (n := l.length) hl]
  · rfl
  · intro i hi
    unfold slices_Equal_api_Bucket_api_Bucket_x1
    have : ((i : Int) < l.length) := by omega
    simp [this, at_nat hi]
  · unfold slices_Equal_api_Bucket_api_Bucket_x1
    simp
end Go.Eng

/-
The law RollUpsJoin.
-/
namespace Go.Eng
open Go
set_option linter.unusedVariables false
set_option linter.unusedSimpArgs false

theorem RSer.sub {low : Int} {l m : List api_Sample} (h : RSer low l) (hs : m.Sublist l) : RSer low m :=
  ⟨fun x hx => h.dev x (hs.subset hx), fun x hx => h.mom x (hs.subset hx), fun x hx => h.val x (hs.subset hx), h.inc.sublist hs⟩
theorem counts {Q : List api_Bucket} (h : GBs Q) (hc : cnt Q ≤ 1000) : loopO (fleetkeep2_RollUpsJoin_x1 Q) (0, 0) = some (cnt Q) := by
  have hlen := cnt_nonneg h
  have key : ∀ (n i : Nat), Q.length - i = n → i ≤ Q.length → loopO (fleetkeep2_RollUpsJoin_x1 Q) (cnt (Q.take i), (i : Int)) = some (cnt Q) := by
    intro n
    induction n with
    | zero =>
      intro i h1 h2
      have hi : ¬ (i : Int) < Q.length := by omega
      rw [List.take_of_length_le (by omega), loopO_eq]
      unfold fleetkeep2_RollUpsJoin_x1
      simp only [hi, decide_false, cond_false, Option.bind_some]
    | succ n ih =>
      intro i h1 h2
      have hi : i < Q.length := by omega
      have hi' : (i : Int) < Q.length := by omega
      have t1 := take_cnt h i
      have t2 := take_cnt h (i + 1)
      have n1 := cnt_nonneg t1.1
      have n2 := cnt_nonneg t2.1
      have e : cnt (Q.take (i + 1)) = cnt (Q.take i) + Q[i].Count := by
        rw [List.take_succ_eq_append_getElem hi, cnt_app]
        simp only [cnt]; omega
      rw [loopO_eq]
      have : fleetkeep2_RollUpsJoin_x1 Q (cnt (Q.take i), (i : Int)) = some (.inl (cnt (Q.take (i + 1)), ((i + 1 : Nat) : Int))) := by
        unfold fleetkeep2_RollUpsJoin_x1
        simp only [hi', decide_true, cond_true, at_nat hi, Option.bind_some]
        rw [wrap64 (n := cnt (Q.take i) + Q[i].Count) (by omega) (by omega), wrap64 (n := (i : Int) + 1) (by omega) (by omega), e]
        rfl
      rw [this]
      simp only [Option.bind_some]
      exact ih (i + 1) (by omega) (by omega)
  have := key _ 0 rfl (by omega)
  rw [List.take_zero] at this
  exact this

theorem RollUpsJoin_true (L : List Int) (hL : L.length ≤ 9223372036854775807) (hI : ∀ n ∈ L, -9223372036854775808 ≤ n ∧ n ≤ 9223372036854775807) : fleetkeep2_RollUpsJoin L = some true := by
  refine Ok.eq ?_
  unfold fleetkeep2_RollUpsJoin
  have s0 : StrOk 0 (fleetmake_Stream.mk L 0) := ⟨Int.le_refl _, Int.le_refl _, hL, hI⟩
  refine (RightSeries_right s0 (by omega) (by omega) (by omega)).bind fun ⟨s1, l⟩ ⟨a1, a2, a3⟩ => ?_
  simp only at a1 a2 a3
  refine (Pick_ok a1 (by omega) (by simp) (by simp)).bind fun long hlong => ?_
  have hl : 1 ≤ long ∧ long ≤ 100 := by simp at hlong; omega
  refine (Range_ok (a1.nxt (by omega)) (by omega) (by omega) (by omega)).bind fun ⟨s2, times⟩ ⟨b1, b2, b3, _⟩ => ?_
  have b3 := b3 (by omega)
  simp only at b1 b2 b3
  refine (Range_ok b1 (by omega) (by omega) (by omega)).bind fun ⟨s3, cut⟩ ⟨c1, c2, c3, _⟩ => ?_
  have c3 := c3 (by omega)
  simp only at c1 c2 c3
  dsimp only
  have hlt1 : long * times ≤ 100 * 6 := Int.mul_le_mul hl.2 b3 (by omega) (by omega)
  have hlt0 : 1 ≤ long * times := by
    have := Int.mul_le_mul_of_nonneg_left b2 (show 0 ≤ long by omega)
    omega
  obtain ⟨c, rfl⟩ : ∃ c : Nat, cut = c := ⟨cut.toNat, by omega⟩
  have s1' : sub? l 0 (c : Int) = some (l.take c) := by
    unfold sub?
    rw [if_pos ⟨by omega, by omega, by omega⟩]
    simp
  have s2' : sub? l (c : Int) (l.length : Int) = some (l.drop c) := by
    unfold sub?
    rw [if_pos ⟨by omega, by omega, by omega⟩]
    simp
  have r1 : RSer (-100) (l.take c) := a2.sub (List.take_sublist _ _)
  have r2 : RSer (-100) (l.drop c) := a2.sub (List.drop_sublist _ _)
  have l1 : (l.take c).length ≤ 100 := by simp; omega
  have l2 : (l.drop c).length ≤ 100 := by simp; omega
  have hw : IntKind.wrap .i64 (long * times) = long * times := wrap64 (by omega) (by omega)
  have v0 := vbs_of hl.1 a2 (by omega) (by omega)
  have v1 := vbs_of hl.1 r1 (by omega) l1
  have v2 := vbs_of hl.1 r2 (by omega) l2
  have g1 := gath (long := long) (by omega) r1 (by omega)
  have g2 := gath (long := long) (by omega) r2 (by omega)
  have g0 := gath (long := long) (by omega) a2 (by omega)
  have hjoin := Join_val v1 v2 ⟨hl.1, by omega⟩ (by
    rw [cnt_rev, cnt_rev, g1.cnt, g2.cnt]
    simp only [List.length_take, List.length_drop]; omega) (by
    intro a ha b hb
    obtain ⟨x, hx, ex⟩ := g1.time a (List.mem_reverse.1 ha)
    obtain ⟨y, hy, ey⟩ := g2.time b (List.mem_reverse.1 hb)
    rw [ex, ey]
    refine tw_mono (by omega) ?_
    have hp := a2.inc
    rw [← List.take_append_drop c l, List.pairwise_append] at hp
    exact Int.le_of_lt (hp.2.2 x hx y hy))
  have hj2 : ((bks long (l.take c)).reverse ++ (bks long (l.drop c)).reverse).foldl addR [] = bks long l := by
    rw [List.foldl_append]
    have := bks_append long (l.take c) (l.drop c)
    rw [List.take_append_drop] at this
    exact this
  rw [hj2] at hjoin
  have hwide := Wider_val (L := long * times) v0 ⟨hl.1, by omega⟩ ⟨hlt0, by omega⟩ (Int.mul_emod_right _ _)
  rw [bks_wider (by omega) (by omega) a2] at hwide
  have hcnt := counts v0.good v0.few
  rw [cnt_rev, g0.cnt] at hcnt
  rw [Buckets_val a2 (by omega) (by omega) ⟨hl.1, by omega⟩, s1', s2', hw]
  simp only [Option.bind_some]
  rw [Buckets_val r1 (by omega) l1 ⟨hl.1, by omega⟩, Buckets_val r2 (by omega) l2 ⟨hl.1, by omega⟩, Buckets_val a2 (by omega) (by omega) (long := long * times) ⟨hlt0, by omega⟩]
  simp only [Option.bind_some, hjoin, hwide, hcnt]
  have her : fleetkeep2_errs [0, 0, 0, 0, 0, 0] = some 0 := by kernel_rfl
  have q1 := cnt_nonneg v0.good
  have q2 := v0.few
  have v3 := vbs_of hlt0 a2 (by omega) (by omega)
  have q3 := cnt_nonneg v3.good
  have q4 := v3.few
  unfold fleetkeep2_RollUpsJoin_x2
  simp only [her, Option.bind_some, decide_true, cond_true, EqualB_self (l := (bks long l).reverse) (by omega), EqualB_self (l := (bks (long * times) l).reverse) (by omega), check_ok v0 ⟨hl.1, by omega⟩, ready_eq]
  exact .some rfl
end Go.Eng

