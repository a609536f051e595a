/-
What the plain functions of the law CampaignsCheck answer, part 1.
-/
import Derived.Test.YtemhheohphinpaaGreatDoorGenF
import Derived.KernelRfl
import Derived.Test.YtemhheohphinpaaGreatDoorEngV
/-
Plain functions: what they answer, in total. Loops by an invariant and a measure.
-/
namespace Go.Eng
open Go
set_option linter.unusedVariables false
set_option linter.unusedSimpArgs false

def Ok {α : Type} (x : Option α) (P : α → Prop) : Prop := ∃ r, x = some r ∧ P r
section
variable {α β σ ρ : Type} {P Q : α → Prop} {R : β → Prop}
theorem Ok.some {r : α} (h : P r) : Ok (some r) P := ⟨r, rfl, h⟩
theorem Ok.mono {x : Option α} (h : Ok x P) (hq : ∀ r, P r → Q r) : Ok x Q := let ⟨r, h1, h2⟩ := h; ⟨r, h1, hq r h2⟩
theorem Ok.bind {x : Option α} {f : α → Option β} (h : Ok x P) (hf : ∀ r, P r → Ok (f r) R) : Ok (x.bind f) R := by
  obtain ⟨r, rfl, hr⟩ := h
  exact hf r hr
theorem Ok.cond {b : Bool} {x y : Option α} (ht : b = true → Ok x P) (hf : b = false → Ok y P) : Ok (cond b x y) P := by
  cases b
  · exact hf rfl
  · exact ht rfl
theorem Ok.gd {b : Bool} {x : Option α} (hb : b = true) (h : Ok x P) : Ok (gd b x) P := by
  subst hb; exact h
theorem Ok.eq {x : Option α} {r : α} (h : Ok x fun y => y = r) : x = Option.some r := by
  obtain ⟨y, h1, h2⟩ := h
  rw [h1, h2]
theorem Ok.of_eq {x : Option α} {r : α} (h : x = Option.some r) (hp : P r) : Ok x P := ⟨r, h, hp⟩

theorem loop_ok {f : σ → Option (σ ⊕ ρ)} {Q : ρ → Prop} (I : σ → Prop) (μ : σ → Nat)
    (step : ∀ s, I s → Ok (f s) fun x => match x with | .inl s' => I s' ∧ μ s' < μ s | .inr r => Q r) {s : σ} (h : I s) : Ok (loopO f s) Q := by
  generalize hn : μ s = n
  induction n using Nat.strongRecOn generalizing s with
  | _ n ih =>
    obtain ⟨x, h1, h2⟩ := step s h
    cases x with
    | inl s' =>
      obtain ⟨h3, h4⟩ := h2
      obtain ⟨r, h5, h6⟩ := ih (μ s') (by omega) h3 rfl
      refine ⟨r, ?_, h6⟩
      rw [loopO_eq, h1]
      exact h5
    | inr r =>
      refine ⟨r, ?_, h2⟩
      rw [loopO_eq, h1]
      rfl

theorem at_lt {l : List α} {n : Int} (h : 0 ≤ n) (h2 : n < l.length) : at? l n = Option.some (l[n.toNat]'(by omega)) := by
  unfold at?
  rw [if_pos h, List.getElem?_eq_getElem]
theorem at_nat {l : List α} {n : Nat} (h : n < l.length) : at? l (n : Int) = Option.some l[n] := by
  rw [at_lt (by omega) (by omega)]
  simp
theorem at_ok {l : List α} {n : Int} (h : 0 ≤ n) (h2 : n < l.length) : Ok (at? l n) (fun y => l[n.toNat]? = Option.some y) := by
  refine ⟨_, at_lt h h2, ?_⟩
  rw [List.getElem?_eq_getElem]
theorem at_mem {l : List α} {n : Int} (h : 0 ≤ n) (h2 : n < l.length) : Ok (at? l n) (fun y => y ∈ l) := by
  refine (at_ok h h2).mono fun y hy => List.mem_of_getElem? hy
end

/-! ### Integers of 64 bits -/
def I64 (n : Int) : Prop := -9223372036854775808 ≤ n ∧ n ≤ 9223372036854775807
theorem wrap64 {n : Int} (h : -9223372036854775808 ≤ n) (h2 : n ≤ 9223372036854775807) : IntKind.wrap .i64 n = n := by
  unfold IntKind.wrap
  simp [IntKind.min, IntKind.max, IntKind.bits, IntKind.signed]
  omega
theorem tmod_nonneg {a b : Int} (h : 0 ≤ a) : 0 ≤ a.tmod b := Int.tmod_nonneg b h
theorem tmod_lt' {a b : Int} (h : 0 < b) : a.tmod b < b := Int.tmod_lt_of_pos a h
theorem lim_eq : LIM = 137438953472 := by decide
theorem ble_lim {n : Nat} (h : n ≤ 137438953472) : Nat.ble n LIM = true := by rw [Nat.ble_eq, lim_eq]; exact h
end Go.Eng

/-
The streams.
-/
namespace Go.Eng
open Go
set_option linter.unusedVariables false
set_option linter.unusedSimpArgs false

theorem wrap_I64 (n : Int) : I64 (IntKind.wrap .i64 n) := by
  unfold IntKind.wrap I64
  simp [IntKind.bits, IntKind.signed]
  split <;> omega

theorem Below_eq {x n : Int} (hx : I64 x) (hn : I64 n) : z246 x n = some (if n < 1 then 0 else x % n) := by
  unfold I64 at hx hn
  unfold z246 z249
  by_cases h : n < 1
  · simp [h]
  · have h0 : (n == 0) = false := by simp; omega
    have e := Int.emod_eq_tmod (a := x) (b := n)
    have nn := Int.emod_nonneg x (show n ≠ 0 by omega)
    have lt := Int.emod_lt_of_pos x (show 0 < n by omega)
    simp only [h, decide_false, cond_false, h0, Bool.not_false, gd, cond_true, Option.bind_some, if_false]
    by_cases h3 : x.tmod n < 0
    · simp only [h3, decide_true, cond_true, Option.bind_some]
      split at e
      · omega
      · rw [wrap64 (by omega) (by omega)]
        congr 1
        omega
    · simp only [h3, decide_false, cond_false, Option.bind_some]
      congr 1
      split at e <;> omega
theorem Below_ok {x n : Int} (hx : I64 x) (hn : I64 n) : Ok (z246 x n) (fun r => (1 ≤ n → 0 ≤ r ∧ r < n) ∧ (n < 1 → r = 0)) := by
  refine .of_eq (Below_eq hx hn) ⟨fun h => ?_, fun h => by simp [h]⟩
  rw [if_neg (by omega)]
  exact ⟨Int.emod_nonneg _ (by omega), Int.emod_lt_of_pos _ (by omega)⟩

/-- A stream whose numbers are of 64 bits, of which at most k were taken. -/
def StrOk (k : Nat) (s : z253) : Prop := 0 ≤ s.at_ ∧ s.at_ ≤ k ∧ s.L.length ≤ 9223372036854775807 ∧ ∀ n ∈ s.L, I64 n
theorem StrOk.mono {k k' : Nat} {s : z253} (h : StrOk k s) (hk : k ≤ k') : StrOk k' s := ⟨h.1, by have := h.2.1; omega, h.2.2⟩
/-- One number further. -/
abbrev nxt (s : z253) : z253 := z253.mk s.L (IntKind.wrap .i64 (s.at_ + 1))
theorem StrOk.nxt {k : Nat} {s : z253} (h : StrOk k s) (hk : k < 1099511627776) : StrOk (k + 1) (nxt s) := by
  obtain ⟨h1, h2, h3, h4⟩ := h
  refine ⟨?_, ?_, h3, h4⟩
  · show 0 ≤ IntKind.wrap .i64 (s.at_ + 1)
    rw [wrap64 (by omega) (by omega)]; omega
  · show IntKind.wrap .i64 (s.at_ + 1) ≤ _
    rw [wrap64 (by omega) (by omega)]; omega

theorem Next_ok {k : Nat} {s : z253} {n : Int} (h : StrOk k s) (hk : k < 1099511627776) (hn : I64 n) : Ok (z311 s n) (fun r => (1 ≤ n → 0 ≤ r ∧ r < n) ∧ (n < 1 → r = 0)) := by
  obtain ⟨h1, h2, h3, h4⟩ := h
  unfold z311
  refine .cond (fun _ => ?_) (fun hl => ?_)
  · exact (Below_ok (wrap_I64 _) hn).bind fun r hr => .some hr
  · have hl' : s.L.length ≠ 0 := by simpa using hl
    have e1 : IntKind.wrap .i64 (s.at_ + 1) = s.at_ + 1 := wrap64 (by omega) (by omega)
    have e2 : IntKind.wrap .i64 (s.at_ + 1 - 1) = s.at_ := by rw [wrap64 (by omega) (by omega)]; omega
    refine .gd (by simpa using hl') ?_
    rw [e1, e2]
    refine (at_mem (tmod_nonneg h1) (tmod_lt' (by omega))).bind fun y hy => ?_
    refine (Below_ok (h4 y hy) (by unfold I64; omega)).bind fun r1 hr1 => ?_
    exact (Below_ok (wrap_I64 _) hn).bind fun r hr => .some hr

theorem Pick_ok {k : Nat} {s : z253} {l : List Int} (h : StrOk k s) (hk : k < 1099511627776) (hl : 0 < l.length) (hl2 : l.length < 1000) : Ok (z317 s l) (fun r => r ∈ l) := by
  unfold z317
  refine (Next_ok h hk (by unfold I64; omega)).bind fun r hr => ?_
  have := hr.1 (by omega)
  exact (at_mem this.1 this.2).bind fun y hy => .some hy
theorem Some_ok {k : Nat} {s : z253} {l : List (List UInt8)} (h : StrOk k s) (hk : k < 1099511627776) (hl : 0 < l.length) (hl2 : l.length < 1000) : Ok (z350 s l) (fun r => r ∈ l) := by
  unfold z350
  refine (Next_ok h hk (by unfold I64; omega)).bind fun r hr => ?_
  have := hr.1 (by omega)
  exact (at_mem this.1 this.2).bind fun y hy => .some hy
theorem Flip_ok {k : Nat} {s : z253} {n : Int} (h : StrOk k s) (hk : k < 1099511627776) (hn : I64 n) : Ok (z272 s n) (fun _ => True) := by
  unfold z272
  exact (Next_ok h hk hn).bind fun r hr => .some trivial
theorem Range_ok {k : Nat} {s : z253} {low high : Int} (h : StrOk k s) (hk : k < 1099511627776) (hlow : -4611686018427387903 < low ∧ low < 4611686018427387904) (hh : -4611686018427387904 < high ∧ high < 4611686018427387903) :
    Ok (z320 s low high) (fun r => StrOk (k + 1) r.1 ∧ low ≤ r.2 ∧ (low ≤ high → r.2 ≤ high) ∧ (high < low → r.2 = low)) := by
  unfold z320
  refine .cond (fun hc => ?_) (fun hc => ?_)
  · have hc' : high < low := by simpa using hc
    exact .some ⟨h.mono (by omega), Int.le_refl _, by intro h; omega, fun _ => rfl⟩
  · have hc' : ¬ high < low := by simpa using hc
    have e1 : IntKind.wrap .i64 (high - low) = high - low := wrap64 (by omega) (by omega)
    have e2 : IntKind.wrap .i64 (high - low + 1) = high - low + 1 := wrap64 (by omega) (by omega)
    rw [e1, e2]
    refine (Next_ok h hk (by unfold I64; omega)).bind fun r hr => ?_
    have := hr.1 (by omega)
    refine .some ⟨h.nxt hk, ?_, fun _ => ?_, fun h => by omega⟩
    · show low ≤ IntKind.wrap .i64 (low + r)
      rw [wrap64 (by omega) (by omega)]; omega
    · show IntKind.wrap .i64 (low + r) ≤ high
      rw [wrap64 (by omega) (by omega)]; omega
theorem Odd_ok {k : Nat} {s : z253} {low high : Int} (h : StrOk k s) (hk : k + 2 < 1099511627776) (hlow : -4611686018427387902 < low ∧ low < 4611686018427387904) (hh : -4611686018427387904 < high ∧ high < 4611686018427387902) (hlh : low ≤ high) :
    Ok (z314 s low high) (fun r => StrOk (k + 2) r.1 ∧ ((low - 1 ≤ r.2 ∧ r.2 ≤ high + 1) ∨ r.2 = -1099511627776 ∨ r.2 = 1099511627776)) := by
  unfold z314
  refine (Flip_ok h (by omega) (by unfold I64; omega)).bind fun b _ => .cond (fun _ => ?_) (fun _ => ?_)
  · refine (Pick_ok (h.nxt (by omega)) (by omega) (by simp) (by simp)).bind fun r hr => .some ⟨(h.nxt (by omega)).nxt (by omega), ?_⟩
    have e1 : IntKind.wrap .i64 (low - 1) = low - 1 := wrap64 (by omega) (by omega)
    have e2 : IntKind.wrap .i64 (high + 1) = high + 1 := wrap64 (by omega) (by omega)
    rw [e1, e2] at hr
    simp only [List.mem_cons, List.not_mem_nil, or_false] at hr
    show (low - 1 ≤ r ∧ r ≤ high + 1) ∨ r = _ ∨ r = _
    omega
  · refine (Range_ok (h.nxt (by omega)) (by omega) ⟨by omega, by omega⟩ ⟨by omega, by omega⟩).bind fun r hr => .some ⟨hr.1, .inl ⟨by have := hr.2.1; show low - 1 ≤ r.2; omega, ?_⟩⟩
    have := hr.2.2.1 hlh
    show r.2 ≤ high + 1
    omega
end Go.Eng

/-
Loops over the elements of a list; keys.
-/
namespace Go.Eng
open Go
set_option linter.unusedVariables false
set_option linter.unusedSimpArgs false

/-- The first answer of the elements from number k on. -/
def scan {α ρ : Type} (g : Nat → α → Option ρ) : Nat → List α → Option ρ
  | _, [] => none
  | k, x :: xs => match g k x with
    | some r => some r
    | none => scan g (k + 1) xs

theorem drop_get {α : Type} {l : List α} {i : Nat} (h : i < l.length) : l.drop i = l[i] :: l.drop (i + 1) := List.drop_eq_getElem_cons h

/-- A loop over a list that ends at the first element with an answer. -/
theorem range_loop {α ρ : Type} {l : List α} {f : Int → Option (Int ⊕ ρ)} (g : Nat → α → Option ρ) (done : ρ) (hl : (l.length : Int) ≤ 9223372036854775807)
    (hf : ∀ (i : Nat) (h : i < l.length), f i = some (match g i l[i] with | none => .inl (IntKind.wrap .i64 (i + 1)) | some r => .inr r)) (hd : f l.length = some (.inr done)) :
    loopO f 0 = some ((scan g 0 l).getD done) := by
  have key : ∀ (n i : Nat), l.length - i = n → i ≤ l.length → loopO f i = some ((scan g i (l.drop i)).getD done) := by
    intro n
    induction n with
    | zero =>
      intro i h1 h2
      have : i = l.length := by omega
      subst this
      rw [loopO_eq, hd, List.drop_length]
      rfl
    | succ n ih =>
      intro i h1 h2
      have hi : i < l.length := by omega
      rw [loopO_eq, hf i hi, drop_get hi]
      simp only [scan]
      cases hg : g i l[i] with
      | some r => rfl
      | none =>
        simp only [Option.bind_some]
        rw [wrap64 (by omega) (by omega)]
        exact ih (i + 1) (by omega) (by omega)
  exact key l.length 0 (by omega) (by omega)

theorem scan_none {α ρ : Type} {g : Nat → α → Option ρ} : ∀ {l : List α} {k : Nat}, scan g k l = none ↔ ∀ (i : Nat) (x : α), l[i]? = some x → g (k + i) x = none
  | [], k => by simp [scan]
  | y :: l, k => by
    simp only [scan]
    cases hg : g k y with
    | some r =>
      simp only [reduceCtorEq, false_iff]
      intro h
      have := h 0 y rfl
      rw [Nat.add_zero, hg] at this
      cases this
    | none =>
      simp only
      rw [scan_none]
      constructor
      · intro h i x hi
        cases i with
        | zero => simp at hi; subst hi; exact hg
        | succ i => rw [show k + (i + 1) = k + 1 + i by omega]; exact h i x (by simpa using hi)
      · intro h i x hi
        rw [show k + 1 + i = k + (i + 1) by omega]
        exact h (i + 1) x (by simpa using hi)
/-! ### Keys -/
def keyC (c : UInt8) : Bool := (97 ≤ c.toNat && c.toNat ≤ 122) || (48 ≤ c.toNat && c.toNat ≤ 57) || c.toNat == 45 || c.toNat == 95
def keyB (s : List UInt8) : Bool := match s with
  | [] => false
  | c :: l => decide (l.length < 40) && (97 ≤ c.toNat && c.toNat ≤ 122) && (c :: l).all keyC

theorem u8_lt (c : UInt8) : c.toNat < 256 := c.toNat_lt

theorem u8_all {p : UInt8 → Bool} (h : ((List.range 256).all fun n => p (UInt8.ofNat n)) = true) (c : UInt8) : p c = true := by
  have := List.all_eq_true.1 h c.toNat (List.mem_range.2 (u8_lt c))
  simpa using this
theorem Key_x3 (c : UInt8) : z39 c = some (!keyC c) := by
  have := u8_all (p := fun c => decide (z39 c = some (!keyC c))) (by decide +kernel) c
  simpa using this
theorem Key_x2 (s : List UInt8) (hs : (s.length : Int) ≤ 9223372036854775807) : loopO (z34 s) 0 = some (cond (s.all keyC) (.inl ()) (.inr ())) := by
  rw [range_loop (l := s) (fun _ c => cond (keyC c) none (some (.inr ()))) (.inl ()) hs]
  · congr 1
    generalize 0 = k
    induction s generalizing k with
    | nil => rfl
    | cons c s ih =>
      simp only [scan, List.all_cons]
      cases keyC c with
      | true => simp only [cond_true, Bool.true_and]; exact ih (by simp at hs; omega) (k + 1)
      | false => rfl
  · intro i hi
    unfold z34
    rw [at_nat hi]
    have : ((i : Int) < s.length) := by omega
    simp only [this, decide_true, cond_true, Option.bind_some, Key_x3]
    cases keyC s[i] <;> rfl
  · unfold z34
    simp
theorem Key_eq (s : List UInt8) (hs : (s.length : Int) ≤ 9223372036854775807) : base_Key s = some (keyB s) := by
  unfold base_Key z30
  cases s with
  | nil => simp [keyB]
  | cons c l =>
    rw [Key_x2 _ hs]
    have h0 : at? (c :: l) 0 = some c := rfl
    simp only [reduceCtorEq, decide_false, cond_false, h0, Option.bind_some]
    unfold keyB
    have h40 : ((40 : Int) < ((c :: l).length : Int)) ↔ ¬ l.length < 40 := by simp; omega
    by_cases h1 : l.length < 40
    · have h1' : ¬ ((40 : Int) < ((c :: l).length : Int)) := by rw [h40]; simpa using h1
      simp only [h1', decide_false, cond_false, h1, decide_true, Bool.true_and]
      by_cases h2 : (c.toNat : Int) < 97
      · have : ¬ 97 ≤ c.toNat := by omega
        simp [h2, this]
      · by_cases h3 : (122 : Int) < c.toNat
        · have : ¬ c.toNat ≤ 122 := by omega
          simp [h2, h3, this]
        · have g1 : 97 ≤ c.toNat := by omega
          have g2 : c.toNat ≤ 122 := by omega
          simp only [h2, decide_false, cond_false, h3, Option.bind_some, g1, g2, decide_true, Bool.and_self, Bool.true_and]
          cases (c :: l).all keyC <;> rfl
    · have h1' : ((40 : Int) < ((c :: l).length : Int)) := by rw [h40]; exact h1
      simp only [h1', h1, decide_true, decide_false, cond_true, Option.bind_some, Bool.false_and]
end Go.Eng

/-
Small checks; the order of measurements.
-/
namespace Go.Eng
open Go
set_option linter.unusedVariables false
set_option linter.unusedSimpArgs false

theorem Out_eq (n low high : Int) : base_Out n low high = some (decide (n < low) || decide (high < n)) := by
  unfold base_Out z72
  by_cases h : n < low <;> simp [h]
theorem Moment_eq (n : Int) : z43 n = some (decide (0 ≤ n) && decide (n ≤ 345686399999)) := by
  unfold z43
  rw [Out_eq]
  simp only [Option.bind_some]
  congr 1
  rw [Bool.eq_iff_iff]
  simp
theorem in_eq (n low high : Int) : z436 n low high = some (decide (low ≤ n) && decide (n ≤ high)) := by
  unfold z436 z439
  by_cases h : low ≤ n <;> simp [h]
theorem QMoment_eq (n : Int) : z425 n = some (decide (0 ≤ n) && decide (n ≤ 345686399999)) := by
  unfold z425
  rw [in_eq]
  rfl

theorem indexByte_neg (l : List UInt8) (c : UInt8) : decide (Lib.indexByte l c < 0) = !l.contains c := by
  induction l with
  | nil => rfl
  | cons b l ih =>
    have hge := Lib.indexByte_ge l c
    unfold Lib.indexByte
    rw [List.contains_cons]
    by_cases hb : (b == c) = true
    · have : (c == b) = true := by rw [BEq.comm]; exact hb
      simp [hb, this]
    · have hb' : (b == c) = false := by simpa using hb
      have : (c == b) = false := by rw [BEq.comm]; exact hb'
      simp only [hb', Bool.false_eq_true, if_false, this, Bool.false_or]
      rw [← ih]
      by_cases h1 : Lib.indexByte l c = -1
      · simp [h1]
      · have : (Lib.indexByte l c == -1) = false := by simpa using h1
        simp only [this, Bool.false_eq_true, if_false]
        congr 1
        simp
        omega
theorem only_eq (s t : List UInt8) (hs : (s.length : Int) ≤ 9223372036854775807) : z451 s t = some (s.all fun c => t.contains c) := by
  unfold z451
  rw [range_loop (l := s) (fun _ c => cond (t.contains c) none (some (.inr ()))) (.inl ()) hs]
  · simp only [Option.bind_some]
    generalize 0 = k
    induction s generalizing k with
    | nil => rfl
    | cons c s ih =>
      simp only [scan, List.all_cons]
      cases t.contains c with
      | true => simp only [cond_true, Bool.true_and]; exact ih (by simp at hs; omega) (k + 1)
      | false => rfl
  · intro i hi
    unfold z454
    rw [at_nat hi]
    have : ((i : Int) < s.length) := by omega
    have hc : ((s[i].toNat : Int).toNat.toUInt8) = s[i] := by simp
    simp only [this, decide_true, cond_true, Option.bind_some, z942, z993, hc, indexByte_neg]
    cases t.contains s[i] <;> rfl
  · unfold z454
    simp

theorem small_contains (c : UInt8) : ([97, 98, 99, 100, 101, 102, 103, 104, 105, 106, 107, 108, 109, 110, 111, 112, 113, 114, 115, 116, 117, 118, 119, 120, 121, 122] : List UInt8).contains c = (decide (97 ≤ c.toNat) && decide (c.toNat ≤ 122)) := by
  have := u8_all (p := fun c => ([97, 98, 99, 100, 101, 102, 103, 104, 105, 106, 107, 108, 109, 110, 111, 112, 113, 114, 115, 116, 117, 118, 119, 120, 121, 122] : List UInt8).contains c == (decide (97 ≤ c.toNat) && decide (c.toNat ≤ 122))) (by decide +kernel) c
  exact eq_of_beq this
theorem key_contains (c : UInt8) : ([97, 98, 99, 100, 101, 102, 103, 104, 105, 106, 107, 108, 109, 110, 111, 112, 113, 114, 115, 116, 117, 118, 119, 120, 121, 122, 48, 49, 50, 51, 52, 53, 54, 55, 56, 57, 45, 95] : List UInt8).contains c = keyC c := by
  have := u8_all (p := fun c => ([97, 98, 99, 100, 101, 102, 103, 104, 105, 106, 107, 108, 109, 110, 111, 112, 113, 114, 115, 116, 117, 118, 119, 120, 121, 122, 48, 49, 50, 51, 52, 53, 54, 55, 56, 57, 45, 95] : List UInt8).contains c == keyC c) (by decide +kernel) c
  exact eq_of_beq this

theorem QKey_eq (s : List UInt8) (hs : (s.length : Int) ≤ 9223372036854775807) : z391 s = some (keyB s) := by
  unfold z391 z394
  rw [in_eq]
  cases s with
  | nil => rfl
  | cons c l =>
    have h1 : (1 : Int) ≤ ((c :: l).length : Int) := by simp; omega
    have h40 : (((c :: l).length : Int) ≤ 40) ↔ l.length < 40 := by simp; omega
    have hsub : sub? (c :: l) 0 1 = some [c] := by
      unfold sub?
      simp
      omega
    simp only [Option.bind_some, h1, decide_true, Bool.true_and, hsub]
    rw [only_eq [c] _ (by simp), only_eq (c :: l) _ hs]
    simp only [small_contains, key_contains, Option.bind_some, List.all_cons, List.all_nil, Bool.and_true]
    unfold keyB
    simp only [List.all_cons]
    by_cases h2 : l.length < 40
    · have : (((c :: l).length : Int) ≤ 40) := h40.2 h2
      simp only [this, decide_true, cond_true, h2, Bool.true_and]
      cases (decide (97 ≤ c.toNat) && decide (c.toNat ≤ 122)) <;> rfl
    · have : ¬ (((c :: l).length : Int) ≤ 40) := fun h => h2 (h40.1 h)
      simp only [this, decide_false, cond_false, h2, Bool.false_and, Option.bind_some]

/-! ### Orders -/
def cmpI (a b : Int) : Int := if a < b then -1 else if b < a then 1 else 0
def or0 (a b : Int) : Int := if a = 0 then b else a
theorem cmpB_anti : ∀ a b : List UInt8, Lib.compareBytes b a = -Lib.compareBytes a b
  | [], [] => rfl
  | [], _ :: _ => rfl
  | _ :: _, [] => rfl
  | x :: a, y :: b => by
    unfold Lib.compareBytes
    by_cases h1 : x < y
    · have h2 : ¬ y < x := UInt8.lt_asymm h1
      simp [h1, h2]
    · by_cases h2 : y < x
      · simp [h1, h2]
      · simp [h1, h2, cmpB_anti a b]
theorem cmpB_zero : ∀ {a b : List UInt8}, Lib.compareBytes a b = 0 ↔ a = b
  | [], [] => by simp [Lib.compareBytes]
  | [], _ :: _ => by simp [Lib.compareBytes]
  | _ :: _, [] => by simp [Lib.compareBytes]
  | x :: a, y :: b => by
    unfold Lib.compareBytes
    by_cases h1 : x < y
    · have : x ≠ y := fun h => UInt8.lt_irrefl y (h ▸ h1)
      simp [h1, this]
    · by_cases h2 : y < x
      · have : x ≠ y := fun h => UInt8.lt_irrefl x (by rw [h] at h2 ⊢; exact h2)
        simp [h1, h2, this]
      · have : x = y := UInt8.le_antisymm (UInt8.not_lt.1 h2) (UInt8.not_lt.1 h1)
        simp [h1, h2, cmpB_zero (a := a) (b := b), this]
theorem cmpI_anti (a b : Int) : cmpI b a = -cmpI a b := by unfold cmpI; split <;> split <;> first | omega | (split <;> omega) | rfl
theorem or0_neg (a b : Int) : or0 (-a) (-b) = -or0 a b := by unfold or0; split <;> split <;> omega
end Go.Eng

/-
Checks of measurements and series, both ways.
-/
namespace Go.Eng
open Go
set_option linter.unusedVariables false
set_option linter.unusedSimpArgs false

theorem cmpInt_eq (a b : Int) : z189 a b = some (cmpI a b) := by
  unfold z189 z200 cmpI
  by_cases h1 : a < b
  · simp [h1]
  · by_cases h2 : b < a <;> simp [h1, h2]
theorem Or_eq (l : List Int) (hl : (l.length : Int) ≤ 9223372036854775807) : z192 l = some ((l.find? fun x => !decide (x = 0)).getD 0) := by
  unfold z192
  rw [range_loop (l := l) (fun _ x => cond (!decide (x = 0)) (some (.inr x)) none) (.inl ()) hl]
  · simp only [Option.bind_some]
    generalize 0 = k
    induction l generalizing k with
    | nil => rfl
    | cons c s ih =>
      simp only [scan, List.find?_cons]
      by_cases hc : c = 0
      · simp only [hc, decide_true, Bool.not_true, cond_false]
        exact ih (by simp at hl; omega) (k + 1)
      · simp [hc]
  · intro i hi
    unfold z195
    rw [at_nat hi]
    have : ((i : Int) < l.length) := by omega
    simp only [this, decide_true, cond_true, Option.bind_some]
    cases (!decide (l[i] = 0)) <;> rfl
  · unfold z195
    simp
theorem sign_eq (n : Int) : z459 n = some (cmpI n 0) := by
  unfold z459 cmpI
  by_cases h1 : n < 0
  · simp [h1]
  · by_cases h2 : 0 < n <;> simp [h1, h2]
/-! ### Check -/
end Go.Eng

/-
What streams make: series and windows.
-/
namespace Go.Eng
open Go
set_option linter.unusedVariables false
set_option linter.unusedSimpArgs false

end Go.Eng

/-
Series and windows; faults.
-/
namespace Go.Eng
open Go
set_option linter.unusedVariables false
set_option linter.unusedSimpArgs false

end Go.Eng

/-
The measured constant.
-/
namespace Go.Eng
open Go
set_option linter.unusedVariables false
set_option linter.unusedSimpArgs false

end Go.Eng

/-
Fill and FillOf answer the same for a right series.
-/
namespace Go.Eng
open Go
set_option linter.unusedVariables false
set_option linter.unusedSimpArgs false

/-! ### The place of a moment -/
end Go.Eng

/-
Sorting of few elements, and what is left of equal ones, for all kinds of elements.
-/
namespace Go.Eng
open Go
set_option linter.unusedVariables false
set_option linter.unusedSimpArgs false

/-- Two loops side by side, over the same states. -/
theorem loop_two {σ ρ : Type} {f g : σ → Option (σ ⊕ ρ)} (I : σ → Prop) (μ : σ → Nat) (Q : ρ → Prop)
    (step : ∀ s, I s → (∃ s', f s = some (.inl s') ∧ g s = some (.inl s') ∧ I s' ∧ μ s' < μ s) ∨ (∃ r, f s = some (.inr r) ∧ g s = some (.inr r) ∧ Q r)) {s : σ} (h : I s) :
    ∃ r, loopO f s = some r ∧ loopO g s = some r ∧ Q r := by
  generalize hn : μ s = n
  induction n using Nat.strongRecOn generalizing s with
  | _ n ih =>
    rcases step s h with ⟨s', h1, h2, h3, h4⟩ | ⟨r, h1, h2, h3⟩
    · obtain ⟨r, g1, g2, g3⟩ := ih (μ s') (by omega) h3 rfl
      refine ⟨r, ?_, ?_, g3⟩
      · rw [loopO_eq, h1]; exact g1
      · rw [loopO_eq, h2]; exact g2
    · refine ⟨r, ?_, ?_, h3⟩
      · rw [loopO_eq, h1]; rfl
      · rw [loopO_eq, h2]; rfl

theorem loop_in {σ ρ : Type} {f : σ → Option (σ ⊕ ρ)} {s s' : σ} (h : f s = some (.inl s')) : loopO f s = loopO f s' := by rw [loopO_eq, h]; rfl
theorem loop_out {σ ρ : Type} {f : σ → Option (σ ⊕ ρ)} {s : σ} {r : ρ} (h : f s = some (.inr r)) : loopO f s = some r := by rw [loopO_eq, h]; rfl

section
variable {α : Type}
/-! ### Insertion, as the code has it -/
noncomputable def gI3 (cmp : α → α → Option Int) (qa : Int) (vl3 : List α) (vj1 : Int) : Option (Bool) :=
  cond (decide (qa < vj1))
    ((at? vl3 vj1).bind fun vy15 =>
    (at? vl3 (IntKind.wrap .i64 (vj1 - 1))).bind fun vy16 =>
    (cmp vy15 vy16).bind fun vr1_3 =>
    some (decide (vr1_3 < 0)))
    (some false)
noncomputable def gI2 (cmp : α → α → Option Int) (qa : Int) : (List α) × Int → Option (((List α) × Int) ⊕ ((List α)))
  | (vl3, vj1) =>
  (gI3 cmp qa vl3 vj1).bind fun vx4_1 =>
  cond (vx4_1)
    ((at? vl3 (IntKind.wrap .i64 (vj1 - 1))).bind fun vy17 =>
    (at? vl3 vj1).bind fun vy18 =>
    (at? (vl3.set vj1.toNat vy17) (IntKind.wrap .i64 (vj1 - 1))).bind fun vy19 =>
    some (.inl ((vl3.set vj1.toNat vy17).set (IntKind.wrap .i64 (vj1 - 1)).toNat vy18, IntKind.wrap .i64 (vj1 - 1))))
    (some (.inr vl3))
noncomputable def gI1 (cmp : α → α → Option Int) (qa : Int) (qb : Int) : (List α) × Int → Option (((List α) × Int) ⊕ ((List α)))
  | (vl, vi) =>
  cond (decide (vi < qb))
    ((loopO (gI2 cmp qa) (vl, vi)).bind fun vl4_1 =>
    some (.inl (vl4_1, IntKind.wrap .i64 (vi + 1))))
    (some (.inr vl))
noncomputable def gI (cmp : α → α → Option Int) (qdata : List α) (qa : Int) (qb : Int) : Option ((List α)) :=
  (loopO (gI1 cmp qa qb) (qdata, IntKind.wrap .i64 (qa + 1))).bind fun vl5_1 =>
  some vl5_1
noncomputable def gS1 (cmp : α → α → Option Int) (qn : Int) : (List α) × Int × Int → Option (((List α) × Int × Int) ⊕ (((List α) × Int)))
  | (vl, va, vb) =>
  cond (decide (vb ≤ qn))
    ((gI cmp vl va vb).bind fun vl6_1 =>
    gd (vl6_1.length == vl.length) <|
    some (.inl (vl6_1, vb, IntKind.wrap .i64 (vb + 20))))
    (some (.inr (vl, va)))
noncomputable def gS3 (qn : Int) (vblockSize : Int) : Unit → Option ((Unit) ⊕ (Unit))
  | _ =>
  cond (decide ((IntKind.wrap .i64 ((2 : Int) * vblockSize)) ≤ qn))
    (none)
    (some (.inr ()))
noncomputable def gS2 (qn : Int) (vblockSize : Int) : Option ((Int) ⊕ (Unit)) :=
  cond (decide (vblockSize < qn))
    ((loopO (gS3 qn vblockSize) ()).bind fun _ =>
    cond (decide ((IntKind.wrap .i64 ((0 : Int) + vblockSize)) < qn))
      (none)
      (some (.inl (IntKind.wrap .i64 (vblockSize * 2)))))
    (some (.inr ()))
noncomputable def gS (cmp : α → α → Option Int) (qdata : List α) (qn : Int) : Option ((List α)) :=
  (loopO (gS1 cmp qn) (qdata, 0, 20)).bind fun (vl1_1, va1_1) =>
  (gI cmp vl1_1 va1_1 qn).bind fun vl6_2 =>
  gd (vl6_2.length == vl1_1.length) <|
  (loopO (gS2 qn) 20).bind fun _ =>
  some vl6_2
noncomputable def gSort (cmp : α → α → Option Int) (qx : List α) : Option ((List α)) :=
  (gS cmp qx (qx.length : Int)).bind fun vl2 =>
  gd (vl2.length == qx.length) <|
  some vl2

def All (p : α → Prop) (l : List α) : Prop := ∀ x ∈ l, p x
theorem All.nil {p : α → Prop} : All p [] := fun _ h => nomatch h
theorem All.set {p : α → Prop} {l : List α} (h : All p l) {i : Nat} {x : α} (hx : p x) : All p (l.set i x) := by
  intro y hy
  rcases List.mem_or_eq_of_mem_set hy with hy | rfl
  · exact h y hy
  · exact hx
theorem All.at {p : α → Prop} {l : List α} (h : All p l) {i : Nat} (hi : i < l.length) : p l[i] := h _ (List.getElem_mem hi)

theorem at_i {l : List α} {n : Int} (h : 0 ≤ n) (h2 : n < l.length) : ∃ y, at? l n = some y ∧ y ∈ l := ⟨_, at_lt h h2, List.getElem_mem _⟩

theorem gI2_both {p : α → Prop} {c1 c2 : α → α → Option Int} (hc : ∀ x y, p x → p y → ∃ c, c1 x y = some c ∧ c2 x y = some c) {n : Nat} (hn : n ≤ 100000) {a j : Int} {l : List α} (ha : 0 ≤ a) (hj : a ≤ j ∧ j < n) (hl : l.length = n) (hp : All p l) :
    ∃ r, loopO (gI2 c1 a) (l, j) = some r ∧ loopO (gI2 c2 a) (l, j) = some r ∧ (r.length = n ∧ All p r) := by
  refine loop_two (fun s : List α × Int => s.1.length = n ∧ All p s.1 ∧ a ≤ s.2 ∧ s.2 < n) (fun s => s.2.toNat) _ ?_ ⟨hl, hp, hj.1, hj.2⟩
  rintro ⟨l, j⟩ ⟨h1, h2, h3, h4⟩
  simp only at h1 h2 h3 h4
  unfold gI2 gI3
  by_cases hc' : a < j
  · have w1 : IntKind.wrap .i64 (j - 1) = j - 1 := wrap64 (by omega) (by omega)
    obtain ⟨y, y1, y2⟩ := at_i (l := l) (n := j) (by omega) (by omega)
    obtain ⟨z, z1, z2⟩ := at_i (l := l) (n := j - 1) (by omega) (by omega)
    obtain ⟨u, u1, u2⟩ := at_i (l := l.set j.toNat z) (n := j - 1) (by omega) (by simp; omega)
    obtain ⟨c, e1, e2⟩ := hc y z (h2 y y2) (h2 z z2)
    simp only [hc', decide_true, cond_true, w1, y1, z1, u1, Option.bind_some, e1, e2]
    cases decide (c < 0) with
    | true =>
      left
      exact ⟨((l.set j.toNat z).set (j - 1).toNat y, j - 1), rfl, rfl, ⟨by simp [h1], (h2.set (h2 z z2)).set (h2 y y2), by simp only; omega, by simp only; omega⟩, by simp only; omega⟩
    | false =>
      right
      exact ⟨l, rfl, rfl, h1, h2⟩
  · right
    simp only [hc', decide_false, cond_false, Option.bind_some]
    exact ⟨l, rfl, rfl, h1, h2⟩

theorem gI_both {p : α → Prop} {c1 c2 : α → α → Option Int} (hc : ∀ x y, p x → p y → ∃ c, c1 x y = some c ∧ c2 x y = some c) {n : Nat} (hn : n ≤ 100000) {l : List α} (hl : l.length = n) (hp : All p l) :
    ∃ r, gI c1 l 0 n = some r ∧ gI c2 l 0 n = some r ∧ (r.length = n ∧ All p r) := by
  have w : IntKind.wrap .i64 ((0 : Int) + 1) = 1 := by decide
  obtain ⟨r, e1, e2, e3⟩ := loop_two (f := gI1 c1 0 n) (g := gI1 c2 0 n) (fun s : List α × Int => s.1.length = n ∧ All p s.1 ∧ 1 ≤ s.2 ∧ s.2 ≤ (n : Int) + 1) (fun s => ((n : Int) + 1 - s.2).toNat) (fun r => r.length = n ∧ All p r) (by
    rintro ⟨l, i⟩ ⟨h1, h2, h3, h4⟩
    simp only at h1 h2 h3 h4
    unfold gI1
    by_cases hi : i < (n : Int)
    · left
      obtain ⟨r, e1, e2, e3, e4⟩ := gI2_both hc hn (a := 0) (j := i) (by omega) (by omega) h1 h2
      simp only [hi, decide_true, cond_true, e1, e2, Option.bind_some]
      rw [wrap64 (n := i + 1) (by omega) (by omega)]
      exact ⟨_, rfl, rfl, ⟨e3, e4, by simp only; omega, by simp only; omega⟩, by simp only; omega⟩
    · right
      simp only [hi, decide_false, cond_false]
      exact ⟨l, rfl, rfl, h1, h2⟩) (s := (l, 1)) ⟨hl, hp, by simp, by simp only; omega⟩
  unfold gI
  rw [w, e1, e2]
  exact ⟨r, rfl, rfl, e3⟩

theorem gSort_both {p : α → Prop} {c1 c2 : α → α → Option Int} (hc : ∀ x y, p x → p y → ∃ c, c1 x y = some c ∧ c2 x y = some c) {l : List α} (hl : l.length < 20) (hp : All p l) :
    ∃ r, gSort c1 l = some r ∧ gSort c2 l = some r ∧ (r.length = l.length ∧ All p r) := by
  obtain ⟨r, e1, e2, e3, e4⟩ := gI_both hc (n := l.length) (by omega) rfl hp
  have h20 : ¬ (20 : Int) ≤ (l.length : Int) := by omega
  have h20' : ¬ (20 : Int) < (l.length : Int) := by omega
  have s1 : ∀ c : α → α → Option Int, loopO (gS1 c l.length) (l, 0, 20) = some (l, 0) := by
    intro c
    rw [loopO_eq]
    unfold gS1
    simp only [h20, decide_false, cond_false, Option.bind_some]
  have s2 : loopO (gS2 l.length) 20 = some () := by
    rw [loopO_eq]
    unfold gS2
    simp only [h20', decide_false, cond_false, Option.bind_some]
  have hb : (r.length == l.length) = true := by simp [e3]
  refine ⟨r, ?_, ?_, e3, e4⟩
  · unfold gSort gS
    rw [s1]
    simp only [Option.bind_some, e1, gd_true hb, s2]
  · unfold gSort gS
    rw [s1]
    simp only [Option.bind_some, e2, gd_true hb, s2]

/-! ### Equal ones, as the code has it -/
noncomputable def gC3 (t : α → α → Option Bool) (qx : List α) (vx : Int) (vl4 : List α) (vx6 : Int) (vx7 : Int) : Option (((List α) × Int)) :=
  gd (decide (0 ≤ vx) && decide (0 ≤ vx7) && decide (vx7 < (qx.length : Int) - vx)) <|
  (at? vl4 (vx + vx7)).bind fun vy13 =>
  gd (decide (0 ≤ vx) && decide (0 ≤ (IntKind.wrap .i64 (vx7 - 1))) && decide ((IntKind.wrap .i64 (vx7 - 1)) < (qx.length : Int) - vx)) <|
  (at? vl4 (vx + (IntKind.wrap .i64 (vx7 - 1)))).bind fun vy14 =>
  (t vy13 vy14).bind fun vr5 =>
  cond (!vr5)
    ((at? vl4 vx6).bind fun vy15 =>
    some (vl4.set vx6.toNat vy13, IntKind.wrap .i64 (vx6 + 1)))
    (some (vl4, vx6))
noncomputable def gC2 (t : α → α → Option Bool) (qx : List α) (vx : Int) : (List α) × Int × Int → Option (((List α) × Int × Int) ⊕ (((List α) × Int)))
  | (vl4, vx6, vx7) =>
  cond (decide (vx7 < (((qx.length : Int).toNat - vx.toNat : Nat) : Int)))
    ((gC3 t qx vx vl4 vx6 vx7).bind fun (vl6_1, vx9_1) =>
    some (.inl (vl6_1, vx9_1, IntKind.wrap .i64 (vx7 + 1))))
    (some (.inr (vl4, vx6)))
noncomputable def gC1 (t : α → α → Option Bool) (z : α) (qx : List α) (vx : Int) : Option ((Int) ⊕ (Unit ⊕ (List α))) :=
  cond (decide (vx < (qx.length : Int)))
    ((at? qx vx).bind fun vy8 =>
    (at? qx (IntKind.wrap .i64 (vx - 1))).bind fun vy9 =>
    (t vy8 vy9).bind fun vr3 =>
    cond (vr3)
      (gd (decide (0 ≤ vx) && decide (vx ≤ (qx.length : Int)) && decide ((qx.length : Int) ≤ (qx.length : Int))) <|
      (loopO (gC2 t qx vx) (qx, vx, 1)).bind fun (vl7_1, vx10_1) =>
      gd (decide (0 ≤ vx10_1) && decide (vx10_1 ≤ (vl7_1.length : Int)) && decide ((vl7_1.length : Int) ≤ (vl7_1.length : Int))) <|
      gd (decide (0 ≤ vx10_1) && decide (vx10_1 ≤ ((vl7_1.take vx10_1.toNat ++ (List.replicate ((vl7_1.length : Int).toNat - vx10_1.toNat) z ++ vl7_1.drop (vx10_1.toNat + ((vl7_1.length : Int).toNat - vx10_1.toNat)))).length : Int))) <|
      some (.inr (.inr ((vl7_1.take vx10_1.toNat ++ (List.replicate ((vl7_1.length : Int).toNat - vx10_1.toNat) z ++ vl7_1.drop (vx10_1.toNat + ((vl7_1.length : Int).toNat - vx10_1.toNat)))).take vx10_1.toNat))))
      (some (.inl (IntKind.wrap .i64 (vx + 1)))))
    (some (.inr (.inl ())))
noncomputable def gCom (t : α → α → Option Bool) (z : α) (qx : List α) : Option ((List α)) :=
  cond (decide ((qx.length : Int) < 2))
    (some qx)
    ((loopO (gC1 t z qx) 1).bind fun x => match x with
      | .inl _ =>
        some qx
      | .inr vx11_1 =>
        some vx11_1)

theorem take_part {l m : List α} {k : Nat} (h : k ≤ l.length) : (l.take k ++ m).take k = l.take k := by
  rw [List.take_append_of_le_length (by simp; omega), List.take_take]
  congr 1
  omega
theorem gCom_ok {p : α → Prop} {t : α → α → Option Bool} (ht : ∀ x y, p x → p y → ∃ b, t x y = some b) {z : α} {l : List α} (hl : l.length ≤ 100000) (hp : All p l) : Ok (gCom t z l) (fun r => r.length ≤ l.length ∧ All p r) := by
  unfold gCom
  refine .cond (fun _ => .some ⟨Nat.le_refl _, hp⟩) (fun hc => ?_)
  have hl2 : (2 : Int) ≤ l.length := by simpa using hc
  refine Ok.bind (P := fun x => match x with | .inl _ => True | .inr r => r.length ≤ l.length ∧ All p r) ?_ (fun x hx => ?_)
  · refine loop_ok (fun k : Int => 1 ≤ k ∧ k ≤ l.length) (fun k => ((l.length : Int) - k).toNat) ?_ ⟨by omega, by omega⟩
    rintro k ⟨k1, k2⟩
    unfold gC1
    refine .cond (fun hk => ?_) (fun _ => .some trivial)
    have hk : k < l.length := by simpa using hk
    have w1 : IntKind.wrap .i64 (k - 1) = k - 1 := wrap64 (by omega) (by omega)
    rw [w1]
    obtain ⟨y, y1, y2⟩ := at_i (l := l) (n := k) (by omega) (by omega)
    obtain ⟨x, x1, x2⟩ := at_i (l := l) (n := k - 1) (by omega) (by omega)
    obtain ⟨b, hb⟩ := ht y x (hp y y2) (hp x x2)
    simp only [y1, x1, hb, Option.bind_some]
    cases b with
    | false =>
      simp only [cond_false]
      rw [wrap64 (n := k + 1) (by omega) (by omega)]
      exact .some ⟨⟨by omega, by omega⟩, by omega⟩
    | true =>
      simp only [cond_true]
      refine .gd (by simp; omega) ?_
      refine Ok.bind (P := fun q : List α × Int => q.1.length = l.length ∧ All p q.1 ∧ 0 ≤ q.2 ∧ q.2 ≤ l.length) ?_ (fun ⟨l7, k9⟩ ⟨q1, q2, q3, q4⟩ => ?_)
      · have hkn : (((l.length : Int).toNat - k.toNat : Nat) : Int) = l.length - k := by omega
        refine loop_ok (fun q : List α × Int × Int => q.1.length = l.length ∧ All p q.1 ∧ (k ≤ q.2.1 ∧ q.2.1 ≤ k + q.2.2 - 1) ∧ 1 ≤ q.2.2 ∧ q.2.2 ≤ l.length - k) (fun q => ((l.length : Int) - q.2.2).toNat) ?_ ⟨rfl, hp, ⟨by simp only; omega, by simp only; omega⟩, by simp only; omega, by simp only; omega⟩
        rintro ⟨m, i, j⟩ ⟨m1, m2, ⟨i1, i2⟩, j1, j2⟩
        simp only at m1 m2 i1 i2 j1 j2
        unfold gC2
        rw [hkn]
        refine .cond (fun hj => ?_) (fun _ => .some ⟨m1, m2, by simp only; omega, by simp only; omega⟩)
        have hj : j < l.length - k := by simpa using hj
        have w2 : IntKind.wrap .i64 (j - 1) = j - 1 := wrap64 (by omega) (by omega)
        refine Ok.bind (P := fun q : List α × Int => q.1.length = l.length ∧ All p q.1 ∧ k ≤ q.2 ∧ q.2 ≤ k + j) ?_ (fun ⟨m', i'⟩ ⟨g1, g2, g3, g4⟩ => ?_)
        · unfold gC3
          rw [w2]
          refine .gd (by simp; omega) ?_
          obtain ⟨y, y1, y2⟩ := at_i (l := m) (n := k + j) (by omega) (by omega)
          obtain ⟨x, x1, x2⟩ := at_i (l := m) (n := k + (j - 1)) (by omega) (by omega)
          obtain ⟨u, u1, u2⟩ := at_i (l := m) (n := i) (by omega) (by omega)
          obtain ⟨b, hb⟩ := ht y x (m2 y y2) (m2 x x2)
          rw [y1]
          simp only [Option.bind_some]
          refine .gd (by simp; omega) ?_
          rw [x1]
          simp only [Option.bind_some, hb, u1]
          rw [wrap64 (n := i + 1) (by omega) (by omega)]
          cases b with
          | true => exact .some ⟨m1, m2, i1, by simp only; omega⟩
          | false => exact .some ⟨by simp [m1], m2.set (m2 y y2), by simp only; omega, by simp only; omega⟩
        · simp only at g1 g2 g3 g4
          rw [wrap64 (n := j + 1) (by omega) (by omega)]
          exact .some ⟨⟨g1, g2, ⟨by simp only; omega, by simp only; omega⟩, by simp only; omega, by simp only; omega⟩, by simp only; omega⟩
      · simp only at q1 q2 q3 q4
        refine .gd (by simp; omega) (.gd ?_ ?_)
        · simp only [Bool.and_eq_true, decide_eq_true_eq]
          refine ⟨q3, ?_⟩
          simp only [List.length_append, List.length_take, List.length_replicate, List.length_drop]
          omega
        · rw [take_part (by omega)]
          refine .some ⟨?_, fun x hx => q2 x (List.mem_of_mem_take hx)⟩
          simp only [List.length_take]; omega
  · cases x with
    | inl _ => exact .some ⟨Nat.le_refl _, hp⟩
    | inr r => exact .some hx

end
end Go.Eng

/-
Sorting of up to sixteen: the code's quicksort that defeats patterns; it never comes to heap sort.
-/
namespace Go.Eng
open Go
set_option linter.unusedVariables false
set_option linter.unusedSimpArgs false
set_option linter.unusedSectionVars false
section
variable {α : Type}
noncomputable def pN (qlength : Int) : Option (Int) :=
  (bits_Len (IntKind.wrap .u64 (qlength))).bind fun vr1 =>
  gd (decide (0 ≤ vr1)) <|
  some (ishl .u64 1 vr1)
noncomputable def pX (qr : Int) : Option (Unit) :=
  some ()
noncomputable def pO (c : α → α → Option Int) (qdata : List α) (qa : Int) (qb : Int) (qswaps : Int) : Option (Int × Int × Int) :=
  (at? qdata qb).bind fun vy =>
  (at? qdata qa).bind fun vy1 =>
  (c vy vy1).bind fun vcc =>
  cond (decide (vcc < 0))
    (some (IntKind.wrap .i64 (qswaps + 1), qb, qa))
    (some (qswaps, qa, qb))

noncomputable def pM (c : α → α → Option Int) (qdata : List α) (qa : Int) (qb : Int) (qc : Int) (qswaps : Int) : Option (Int × Int) :=
  (pO c qdata qa qb qswaps).bind fun (vs, vr, vr1) =>
  (pO c qdata vr1 qc vs).bind fun (vs1, vr2, vr1_1) =>
  (pO c qdata vr vr2 vs1).bind fun (vs2, vr3, vr1_2) =>
  some (vs2, vr1_2)

noncomputable def pMA (c : α → α → Option Int) (qdata : List α) (qa : Int) (qswaps : Int) : Option (Int × Int) :=
  (pM c qdata (IntKind.wrap .i64 (qa - 1)) qa (IntKind.wrap .i64 (qa + 1)) qswaps).bind fun (vs3, vr4) =>
  some (vs3, vr4)

noncomputable def pCx2 (c : α → α → Option Int) (qdata : List α) (qa : Int) (qb : Int) : Option ((Int × Int × Int × Int)) :=
  cond (decide (50 ≤ (IntKind.wrap .i64 (qb - qa))))
    ((pMA c qdata (IntKind.wrap .i64 (qa + (IntKind.wrap .i64 ((IntKind.wrap .i64 ((IntKind.wrap .i64 (qb - qa)).tdiv 4)) * 1)))) 0).bind fun (vs, vr) =>
    (pMA c qdata (IntKind.wrap .i64 (qa + (IntKind.wrap .i64 ((IntKind.wrap .i64 ((IntKind.wrap .i64 (qb - qa)).tdiv 4)) * 2)))) vs).bind fun (vs1, vr1) =>
    (pMA c qdata (IntKind.wrap .i64 (qa + (IntKind.wrap .i64 ((IntKind.wrap .i64 ((IntKind.wrap .i64 (qb - qa)).tdiv 4)) * 3)))) vs1).bind fun (vs2, vr2) =>
    some (vs2, vr, vr1, vr2))
    (some (0, IntKind.wrap .i64 (qa + (IntKind.wrap .i64 ((IntKind.wrap .i64 ((IntKind.wrap .i64 (qb - qa)).tdiv 4)) * 1))), IntKind.wrap .i64 (qa + (IntKind.wrap .i64 ((IntKind.wrap .i64 ((IntKind.wrap .i64 (qb - qa)).tdiv 4)) * 2))), IntKind.wrap .i64 (qa + (IntKind.wrap .i64 ((IntKind.wrap .i64 ((IntKind.wrap .i64 (qb - qa)).tdiv 4)) * 3)))))

noncomputable def pCx1 (c : α → α → Option Int) (qdata : List α) (qa : Int) (qb : Int) : Option ((Int × Int)) :=
  cond (decide (8 ≤ (IntKind.wrap .i64 (qb - qa))))
    ((pCx2 c qdata qa qb).bind fun (vswaps1, vi1, vj1, vk1) =>
    (pM c qdata vi1 vj1 vk1 vswaps1).bind fun (vs3, vr4) =>
    some (vs3, vr4))
    (some (0, IntKind.wrap .i64 (qa + (IntKind.wrap .i64 ((IntKind.wrap .i64 ((IntKind.wrap .i64 (qb - qa)).tdiv 4)) * 2)))))

noncomputable def pC (c : α → α → Option Int) (qdata : List α) (qa : Int) (qb : Int) : Option (Int × Int) :=
  (pCx1 c qdata qa qb).bind fun (vswaps2_1, vj2_1) =>
  cond (decide (vswaps2_1 = 0))
    (some (vj2_1, 1))
    (cond (decide (vswaps2_1 = 12))
      (some (vj2_1, 2))
      (some (vj2_1, 0)))

noncomputable def pRx1 : (List α) × Int × Int → Option (((List α) × Int × Int) ⊕ ((List α)))
  | (vl, vi, vj) =>
  cond (decide (vi < vj))
    ((at? vl vj).bind fun vy3 =>
    (at? vl vi).bind fun vy4 =>
    (at? (vl.set vi.toNat vy3) vj).bind fun vy5 =>
    some (.inl ((vl.set vi.toNat vy3).set vj.toNat vy4, IntKind.wrap .i64 (vi + 1), IntKind.wrap .i64 (vj - 1))))
    (some (.inr vl))

noncomputable def pR (qdata : List α) (qa : Int) (qb : Int) : Option ((List α)) :=
  (loopO pRx1 (qdata, qa, IntKind.wrap .i64 (qb - 1))).bind fun vl1_1 =>
  some vl1_1

noncomputable def pIx4 (c : α → α → Option Int) (qx2 : Int) (vl : List α) (vx10 : Int) : Option (Bool) :=
  cond (decide (vx10 < qx2))
    ((at? vl vx10).bind fun vy21 =>
    (at? vl (IntKind.wrap .i64 (vx10 - 1))).bind fun vy22 =>
    (c vy21 vy22).bind fun vcc =>
    some (!(decide (vcc < 0))))
    (some false)

noncomputable def pIx3 (c : α → α → Option Int) (qx2 : Int) (vl : List α) (vx10 : Int) : Option ((Int) ⊕ (Int)) :=
  (pIx4 c qx2 vl vx10).bind fun vx12_1 =>
  cond (vx12_1)
    (some (.inl (IntKind.wrap .i64 (vx10 + 1))))
    (some (.inr vx10))

noncomputable def pIx6 (c : α → α → Option Int) : (List α) × Int → Option (((List α) × Int) ⊕ ((List α)))
  | (vl7, vx14) =>
  cond (decide (1 ≤ vx14))
    ((at? vl7 vx14).bind fun vy29 =>
    (at? vl7 (IntKind.wrap .i64 (vx14 - 1))).bind fun vy30 =>
    (c vy29 vy30).bind fun vcc =>
    cond (!(decide (vcc < 0)))
      (some (.inr vl7))
      ((at? (vl7.set vx14.toNat vy30) (IntKind.wrap .i64 (vx14 - 1))).bind fun vy31 =>
      some (.inl ((vl7.set vx14.toNat vy30).set (IntKind.wrap .i64 (vx14 - 1)).toNat vy29, IntKind.wrap .i64 (vx14 - 1)))))
    (some (.inr vl7))

noncomputable def pIx5 (c : α → α → Option Int) (qx1 : Int) (vl : List α) (vx13_1 : Int) (vy23 : α) (vy24 : α) : Option ((List α)) :=
  cond (decide (2 ≤ (IntKind.wrap .i64 (vx13_1 - qx1))))
    ((loopO (pIx6 c) ((vl.set vx13_1.toNat vy23).set (IntKind.wrap .i64 (vx13_1 - 1)).toNat vy24, IntKind.wrap .i64 (vx13_1 - 1))).bind fun vl8_1 =>
    some vl8_1)
    (some ((vl.set vx13_1.toNat vy23).set (IntKind.wrap .i64 (vx13_1 - 1)).toNat vy24))

noncomputable def pIx7 (c : α → α → Option Int) (qx2 : Int) : (List α) × Int → Option (((List α) × Int) ⊕ ((List α)))
  | (vl10, vx15) =>
  cond (decide (vx15 < qx2))
    ((at? vl10 vx15).bind fun vy35 =>
    (at? vl10 (IntKind.wrap .i64 (vx15 - 1))).bind fun vy36 =>
    (c vy35 vy36).bind fun vcc =>
    cond (!(decide (vcc < 0)))
      (some (.inr vl10))
      ((at? (vl10.set vx15.toNat vy36) (IntKind.wrap .i64 (vx15 - 1))).bind fun vy37 =>
      some (.inl ((vl10.set vx15.toNat vy36).set (IntKind.wrap .i64 (vx15 - 1)).toNat vy35, IntKind.wrap .i64 (vx15 + 1)))))
    (some (.inr vl10))

noncomputable def pIx2 (c : α → α → Option Int) (qx1 : Int) (qx2 : Int) (vl : List α) (vx : Int) : Option (((List α) × Int) ⊕ Bool) :=
  (loopO (pIx3 c qx2 vl) vx).bind fun vx13_1 =>
  cond (decide (vx13_1 = qx2))
    (some (.inr true))
    (cond (decide ((IntKind.wrap .i64 (qx2 - qx1)) < 50))
      (some (.inr false))
      ((at? vl (IntKind.wrap .i64 (vx13_1 - 1))).bind fun vy23 =>
      (at? vl vx13_1).bind fun vy24 =>
      (at? (vl.set vx13_1.toNat vy23) (IntKind.wrap .i64 (vx13_1 - 1))).bind fun vy25 =>
      (pIx5 c qx1 vl vx13_1 vy23 vy24).bind fun vl9_1 =>
      cond (decide (2 ≤ (IntKind.wrap .i64 (qx2 - vx13_1))))
        ((loopO (pIx7 c qx2) (vl9_1, IntKind.wrap .i64 (vx13_1 + 1))).bind fun vl11_1 =>
        some (.inl (vl11_1, vx13_1)))
        (some (.inl (vl9_1, vx13_1)))))

noncomputable def pIx1 (c : α → α → Option Int) (qx1 : Int) (qx2 : Int) : (List α) × Int × Int → Option (((List α) × Int × Int) ⊕ ((List α) ⊕ ((List α) × Bool)))
  | (vl, vx, vx1) =>
  cond (decide (vx1 < 5))
    ((pIx2 c qx1 qx2 vl vx).bind fun x => match x with
      | .inl (vl12_1, vx16_1) =>
        some (.inl (vl12_1, vx16_1, IntKind.wrap .i64 (vx1 + 1)))
      | .inr vx17_1 =>
        some (.inr (.inr (vl, vx17_1))))
    (some (.inr (.inl vl)))

noncomputable def pI (c : α → α → Option Int) (qx : List α) (qx1 : Int) (qx2 : Int) : Option ((List α) × Bool) :=
  (loopO (pIx1 c qx1 qx2) (qx, IntKind.wrap .i64 (qx1 + 1), 0)).bind fun x => match x with
    | .inl vl13_1 =>
      some (vl13_1, false)
    | .inr (vl14_1, vx18_1) =>
      some (vl14_1, vx18_1)

noncomputable def pEx3 (c : α → α → Option Int) (qx1 : Int) (vl : List α) (vx1 : Int) (vx10 : Int) : Option (Bool) :=
  cond (decide (vx10 ≤ vx1))
    ((at? vl qx1).bind fun vy16 =>
    (at? vl vx10).bind fun vy17 =>
    (c vy16 vy17).bind fun vcc =>
    some (!(decide (vcc < 0))))
    (some false)

noncomputable def pEx2 (c : α → α → Option Int) (qx1 : Int) (vl : List α) (vx1 : Int) (vx10 : Int) : Option ((Int) ⊕ (Int)) :=
  (pEx3 c qx1 vl vx1 vx10).bind fun vx12_1 =>
  cond (vx12_1)
    (some (.inl (IntKind.wrap .i64 (vx10 + 1))))
    (some (.inr vx10))

noncomputable def pEx5 (c : α → α → Option Int) (qx1 : Int) (vl : List α) (vx13_1 : Int) (vx14 : Int) : Option (Bool) :=
  cond (decide (vx13_1 ≤ vx14))
    ((at? vl qx1).bind fun vy20 =>
    (at? vl vx14).bind fun vy21 =>
    (c vy20 vy21).bind fun vcc =>
    some (decide (vcc < 0)))
    (some false)

noncomputable def pEx4 (c : α → α → Option Int) (qx1 : Int) (vl : List α) (vx13_1 : Int) (vx14 : Int) : Option ((Int) ⊕ (Int)) :=
  (pEx5 c qx1 vl vx13_1 vx14).bind fun vx16_1 =>
  cond (vx16_1)
    (some (.inl (IntKind.wrap .i64 (vx14 - 1))))
    (some (.inr vx14))

noncomputable def pEx1 (c : α → α → Option Int) (qx1 : Int) : (List α) × Int × Int → Option (((List α) × Int × Int) ⊕ (((List α) × Int)))
  | (vl, vx, vx1) =>
  (loopO (pEx2 c qx1 vl vx1) vx).bind fun vx13_1 =>
  (loopO (pEx4 c qx1 vl vx13_1) vx1).bind fun vx17_1 =>
  cond (decide (vx17_1 < vx13_1))
    (some (.inr (vl, vx13_1)))
    ((at? vl vx17_1).bind fun vy22 =>
    (at? vl vx13_1).bind fun vy23 =>
    (at? (vl.set vx13_1.toNat vy22) vx17_1).bind fun vy24 =>
    some (.inl ((vl.set vx13_1.toNat vy22).set vx17_1.toNat vy23, IntKind.wrap .i64 (vx13_1 + 1), IntKind.wrap .i64 (vx17_1 - 1))))

noncomputable def pE (c : α → α → Option Int) (qx : List α) (qx1 : Int) (qx2 : Int) (qx3 : Int) : Option ((List α) × Int) :=
  (at? qx qx3).bind fun vy =>
  (at? qx qx1).bind fun vy1 =>
  (at? (qx.set qx1.toNat vy) qx3).bind fun vy2 =>
  (loopO (pEx1 c qx1) ((qx.set qx1.toNat vy).set qx3.toNat vy1, IntKind.wrap .i64 (qx1 + 1), IntKind.wrap .i64 (qx2 - 1))).bind fun (vl1_1, vx18_1) =>
  some (vl1_1, vx18_1)

noncomputable def pPx2 (c : α → α → Option Int) (qx : List α) (qx1 : Int) (qx2 : Int) (qx3 : Int) (vy : α) (vy1 : α) (vx : Int) : Option (Bool) :=
  cond (decide (vx ≤ (IntKind.wrap .i64 (qx2 - 1))))
    ((at? ((qx.set qx1.toNat vy).set qx3.toNat vy1) vx).bind fun vy5 =>
    (at? ((qx.set qx1.toNat vy).set qx3.toNat vy1) qx1).bind fun vy6 =>
    (c vy5 vy6).bind fun vcc =>
    some (decide (vcc < 0)))
    (some false)

noncomputable def pPx1 (c : α → α → Option Int) (qx : List α) (qx1 : Int) (qx2 : Int) (qx3 : Int) (vy : α) (vy1 : α) (vx : Int) : Option ((Int) ⊕ (Int)) :=
  (pPx2 c qx qx1 qx2 qx3 vy vy1 vx).bind fun vx2_1 =>
  cond (vx2_1)
    (some (.inl (IntKind.wrap .i64 (vx + 1))))
    (some (.inr vx))

noncomputable def pPx4 (c : α → α → Option Int) (qx : List α) (qx1 : Int) (qx3 : Int) (vy : α) (vy1 : α) (vx3_1 : Int) (vx4 : Int) : Option (Bool) :=
  cond (decide (vx3_1 ≤ vx4))
    ((at? ((qx.set qx1.toNat vy).set qx3.toNat vy1) vx4).bind fun vy9 =>
    (at? ((qx.set qx1.toNat vy).set qx3.toNat vy1) qx1).bind fun vy10 =>
    (c vy9 vy10).bind fun vcc =>
    some (!(decide (vcc < 0))))
    (some false)

noncomputable def pPx3 (c : α → α → Option Int) (qx : List α) (qx1 : Int) (qx3 : Int) (vy : α) (vy1 : α) (vx3_1 : Int) (vx4 : Int) : Option ((Int) ⊕ (Int)) :=
  (pPx4 c qx qx1 qx3 vy vy1 vx3_1 vx4).bind fun vx6_1 =>
  cond (vx6_1)
    (some (.inl (IntKind.wrap .i64 (vx4 - 1))))
    (some (.inr vx4))

noncomputable def pPx7 (c : α → α → Option Int) (qx1 : Int) (vl : List α) (vx9 : Int) (vx18 : Int) : Option (Bool) :=
  cond (decide (vx18 ≤ vx9))
    ((at? vl vx18).bind fun vy30 =>
    (at? vl qx1).bind fun vy31 =>
    (c vy30 vy31).bind fun vcc =>
    some (decide (vcc < 0)))
    (some false)

noncomputable def pPx6 (c : α → α → Option Int) (qx1 : Int) (vl : List α) (vx9 : Int) (vx18 : Int) : Option ((Int) ⊕ (Int)) :=
  (pPx7 c qx1 vl vx9 vx18).bind fun vx20_1 =>
  cond (vx20_1)
    (some (.inl (IntKind.wrap .i64 (vx18 + 1))))
    (some (.inr vx18))

noncomputable def pPx9 (c : α → α → Option Int) (qx1 : Int) (vl : List α) (vx21_1 : Int) (vx22 : Int) : Option (Bool) :=
  cond (decide (vx21_1 ≤ vx22))
    ((at? vl vx22).bind fun vy34 =>
    (at? vl qx1).bind fun vy35 =>
    (c vy34 vy35).bind fun vcc =>
    some (!(decide (vcc < 0))))
    (some false)

noncomputable def pPx8 (c : α → α → Option Int) (qx1 : Int) (vl : List α) (vx21_1 : Int) (vx22 : Int) : Option ((Int) ⊕ (Int)) :=
  (pPx9 c qx1 vl vx21_1 vx22).bind fun vx24_1 =>
  cond (vx24_1)
    (some (.inl (IntKind.wrap .i64 (vx22 - 1))))
    (some (.inr vx22))

noncomputable def pPx5 (c : α → α → Option Int) (qx1 : Int) : (List α) × Int × Int → Option (((List α) × Int × Int) ⊕ (((List α) × Int)))
  | (vl, vx8, vx9) =>
  (loopO (pPx6 c qx1 vl vx9) vx8).bind fun vx21_1 =>
  (loopO (pPx8 c qx1 vl vx21_1) vx9).bind fun vx25_1 =>
  cond (decide (vx25_1 < vx21_1))
    (some (.inr (vl, vx25_1)))
    ((at? vl vx25_1).bind fun vy36 =>
    (at? vl vx21_1).bind fun vy37 =>
    (at? (vl.set vx21_1.toNat vy36) vx25_1).bind fun vy38 =>
    some (.inl ((vl.set vx21_1.toNat vy36).set vx25_1.toNat vy37, IntKind.wrap .i64 (vx21_1 + 1), IntKind.wrap .i64 (vx25_1 - 1))))

noncomputable def pP (c : α → α → Option Int) (qx : List α) (qx1 : Int) (qx2 : Int) (qx3 : Int) : Option ((List α) × Int × Bool) :=
  (at? qx qx3).bind fun vy =>
  (at? qx qx1).bind fun vy1 =>
  (at? (qx.set qx1.toNat vy) qx3).bind fun vy2 =>
  (loopO (pPx1 c qx qx1 qx2 qx3 vy vy1) (IntKind.wrap .i64 (qx1 + 1))).bind fun vx3_1 =>
  (loopO (pPx3 c qx qx1 qx3 vy vy1 vx3_1) (IntKind.wrap .i64 (qx2 - 1))).bind fun vx7_1 =>
  cond (decide (vx7_1 < vx3_1))
    ((at? ((qx.set qx1.toNat vy).set qx3.toNat vy1) qx1).bind fun vy11 =>
    (at? ((qx.set qx1.toNat vy).set qx3.toNat vy1) vx7_1).bind fun vy12 =>
    (at? (((qx.set qx1.toNat vy).set qx3.toNat vy1).set vx7_1.toNat vy11) qx1).bind fun vy13 =>
    some ((((qx.set qx1.toNat vy).set qx3.toNat vy1).set vx7_1.toNat vy11).set qx1.toNat vy12, vx7_1, true))
    ((at? ((qx.set qx1.toNat vy).set qx3.toNat vy1) vx7_1).bind fun vy14 =>
    (at? ((qx.set qx1.toNat vy).set qx3.toNat vy1) vx3_1).bind fun vy15 =>
    (at? (((qx.set qx1.toNat vy).set qx3.toNat vy1).set vx3_1.toNat vy14) vx7_1).bind fun vy16 =>
    (loopO (pPx5 c qx1) ((((qx.set qx1.toNat vy).set qx3.toNat vy1).set vx3_1.toNat vy14).set vx7_1.toNat vy15, IntKind.wrap .i64 (vx3_1 + 1), IntKind.wrap .i64 (vx7_1 - 1))).bind fun (vl1_1, vx26_1) =>
    (at? vl1_1 qx1).bind fun vy39 =>
    (at? vl1_1 vx26_1).bind fun vy40 =>
    (at? (vl1_1.set vx26_1.toNat vy39) qx1).bind fun vy41 =>
    some ((vl1_1.set vx26_1.toNat vy39).set qx1.toNat vy40, vx26_1, false))

noncomputable def pBx2 (qx1 : Int) (qx2 : Int) (vr : Int) (vx : Int) : Option (Int) :=
  cond (decide ((IntKind.wrap .i64 (qx2 - qx1)) ≤ (IntKind.wrap .i64 (ibits .and .u64 (ibits .xor .u64 (ibits .xor .u64 (ibits .xor .u64 vx (ishl .u64 vx 13)) (ishr .u64 (ibits .xor .u64 vx (ishl .u64 vx 13)) 7)) (ishl .u64 (ibits .xor .u64 (ibits .xor .u64 vx (ishl .u64 vx 13)) (ishr .u64 (ibits .xor .u64 vx (ishl .u64 vx 13)) 7)) 17)) (IntKind.wrap .u64 (vr - 1))))))
    (some (IntKind.wrap .i64 ((IntKind.wrap .i64 (ibits .and .u64 (ibits .xor .u64 (ibits .xor .u64 (ibits .xor .u64 vx (ishl .u64 vx 13)) (ishr .u64 (ibits .xor .u64 vx (ishl .u64 vx 13)) 7)) (ishl .u64 (ibits .xor .u64 (ibits .xor .u64 vx (ishl .u64 vx 13)) (ishr .u64 (ibits .xor .u64 vx (ishl .u64 vx 13)) 7)) 17)) (IntKind.wrap .u64 (vr - 1)))) - (IntKind.wrap .i64 (qx2 - qx1)))))
    (some (IntKind.wrap .i64 (ibits .and .u64 (ibits .xor .u64 (ibits .xor .u64 (ibits .xor .u64 vx (ishl .u64 vx 13)) (ishr .u64 (ibits .xor .u64 vx (ishl .u64 vx 13)) 7)) (ishl .u64 (ibits .xor .u64 (ibits .xor .u64 vx (ishl .u64 vx 13)) (ishr .u64 (ibits .xor .u64 vx (ishl .u64 vx 13)) 7)) 17)) (IntKind.wrap .u64 (vr - 1)))))

noncomputable def pBx1 (qx1 : Int) (qx2 : Int) (vr : Int) : (List α) × Int × Int → Option (((List α) × Int × Int) ⊕ ((List α)))
  | (vl, vx, vx1) =>
  cond (decide (vx1 ≤ (IntKind.wrap .i64 ((IntKind.wrap .i64 (qx1 + (IntKind.wrap .i64 ((IntKind.wrap .i64 ((IntKind.wrap .i64 (qx2 - qx1)).tdiv 4)) * 2)))) + 1))))
    ((pX vx).bind fun _ =>
    (pBx2 qx1 qx2 vr vx).bind fun vx3_1 =>
    (at? vl (IntKind.wrap .i64 (qx1 + vx3_1))).bind fun vy3 =>
    (at? vl vx1).bind fun vy4 =>
    (at? (vl.set vx1.toNat vy3) (IntKind.wrap .i64 (qx1 + vx3_1))).bind fun vy5 =>
    some (.inl ((vl.set vx1.toNat vy3).set (IntKind.wrap .i64 (qx1 + vx3_1)).toNat vy4, ibits .xor .u64 (ibits .xor .u64 (ibits .xor .u64 vx (ishl .u64 vx 13)) (ishr .u64 (ibits .xor .u64 vx (ishl .u64 vx 13)) 7)) (ishl .u64 (ibits .xor .u64 (ibits .xor .u64 vx (ishl .u64 vx 13)) (ishr .u64 (ibits .xor .u64 vx (ishl .u64 vx 13)) 7)) 17), IntKind.wrap .i64 (vx1 + 1))))
    (some (.inr vl))

noncomputable def pB (qx : List α) (qx1 : Int) (qx2 : Int) : Option ((List α)) :=
  cond (decide (8 ≤ (IntKind.wrap .i64 (qx2 - qx1))))
    ((pN (IntKind.wrap .i64 (qx2 - qx1))).bind fun vr =>
    (loopO (pBx1 qx1 qx2 vr) (qx, IntKind.wrap .u64 (IntKind.wrap .i64 (qx2 - qx1)), IntKind.wrap .i64 ((IntKind.wrap .i64 (qx1 + (IntKind.wrap .i64 ((IntKind.wrap .i64 ((IntKind.wrap .i64 (qx2 - qx1)).tdiv 4)) * 2)))) - 1))).bind fun vl1_1 =>
    some vl1_1)
    (some qx)

noncomputable def pQx2 (recF : (List α) → Int → Int → Int → Option ((List α))) (vl : List α) (vx : Int) (vx1 : Int) (vx2 : Int) (vx3 : Bool) : Option (((List α) × Int)) :=
  cond (!vx3)
    ((pB vl vx vx1).bind fun vl2_4 =>
    gd (vl2_4.length == vl.length) <|
    some (vl2_4, IntKind.wrap .i64 (vx2 - 1)))
    (some (vl, vx2))

noncomputable def pQx3 (recF : (List α) → Int → Int → Int → Option ((List α))) (vx : Int) (vx1 : Int) (vl7_1 : List α) (vr3_1 : Int) (vr5_1 : Int) : Option (((List α) × Int × Int)) :=
  cond (decide (vr5_1 = 2))
    ((pR vl7_1 vx vx1).bind fun vl2_5 =>
    gd (vl2_5.length == vl7_1.length) <|
    some (vl2_5, IntKind.wrap .i64 ((IntKind.wrap .i64 (vx1 - 1)) - (IntKind.wrap .i64 (vr3_1 - vx))), 1))
    (some (vl7_1, vr3_1, vr5_1))

noncomputable def pQx5 (recF : (List α) → Int → Int → Int → Option ((List α))) (vx3 : Bool) (vx4 : Bool) (vx12_1 : Int) : Option (Bool) :=
  cond (vx3)
    (cond (vx4)
      (some (decide (vx12_1 = 1)))
      (some false))
    (some false)

noncomputable def pQx4 (c : α → α → Option Int) (recF : (List α) → Int → Int → Int → Option ((List α))) (vx : Int) (vx1 : Int) (vx3 : Bool) (vx4 : Bool) (vl8_1 : List α) (vx12_1 : Int) : Option ((List α) ⊕ (List α)) :=
  (pQx5 recF vx3 vx4 vx12_1).bind fun vx13_1 =>
  cond (vx13_1)
    ((pI c vl8_1 vx vx1).bind fun (vl15_1, vr4) =>
    gd (vl15_1.length == vl8_1.length) <|
    cond (vr4)
      (some (.inr vl15_1))
      (some (.inl vl15_1)))
    (some (.inl vl8_1))

noncomputable def pQx6 (c : α → α → Option Int) (recF : (List α) → Int → Int → Int → Option ((List α))) (vx : Int) (vx11_1 : Int) (vl9_1 : List α) : Option (Bool) :=
  cond (decide (0 < vx))
    ((at? vl9_1 (IntKind.wrap .i64 (vx - 1))).bind fun vy2 =>
    (at? vl9_1 vx11_1).bind fun vy3 =>
    (c vy2 vy3).bind fun vcc =>
    some (!(decide (vcc < 0))))
    (some false)

noncomputable def pQx1 (c : α → α → Option Int) (recF : (List α) → Int → Int → Int → Option ((List α))) : (List α) × Int × Int × Int × Bool × Bool → Option (((List α) × Int × Int × Int × Bool × Bool) ⊕ ((List α)))
  | (vl, vx, vx1, vx2, vx3, vx4) =>
  cond (decide ((IntKind.wrap .i64 (vx1 - vx)) ≤ 12))
    ((gI c vl vx vx1).bind fun vl6_1 =>
    gd (vl6_1.length == vl.length) <|
    some (.inr vl6_1))
    (cond (decide (vx2 = 0))
      (none)
      ((pQx2 recF vl vx vx1 vx2 vx3).bind fun (vl7_1, vx10_1) =>
      (pC c vl7_1 vx vx1).bind fun (vr3_1, vr5_1) =>
      (pQx3 recF vx vx1 vl7_1 vr3_1 vr5_1).bind fun (vl8_1, vx11_1, vx12_1) =>
      (pQx4 c recF vx vx1 vx3 vx4 vl8_1 vx12_1).bind fun x => match x with
        | .inl vl9_1 =>
          (pQx6 c recF vx vx11_1 vl9_1).bind fun vx14_1 =>
          cond (vx14_1)
            ((pE c vl9_1 vx vx1 vx11_1).bind fun (vl2_6, vr6) =>
            gd (vl2_6.length == vl9_1.length) <|
            some (.inl (vl2_6, vr6, vx1, vx10_1, vx3, vx4)))
            ((pP c vl9_1 vx vx1 vx11_1).bind fun (vl2_7, vr7, vr1_2) =>
            gd (vl2_7.length == vl9_1.length) <|
            cond (decide ((IntKind.wrap .i64 (vr7 - vx)) < (IntKind.wrap .i64 (vx1 - vr7))))
              ((recF vl2_7 vx vr7 vx10_1).bind fun vl10_2 =>
              gd (vl10_2.length == vl2_7.length) <|
              some (.inl (vl10_2, IntKind.wrap .i64 (vr7 + 1), vx1, vx10_1, decide ((IntKind.wrap .i64 ((IntKind.wrap .i64 (vx1 - vx)).tdiv 8)) ≤ (IntKind.wrap .i64 (vr7 - vx))), vr1_2)))
              ((recF vl2_7 (IntKind.wrap .i64 (vr7 + 1)) vx1 vx10_1).bind fun vl10_3 =>
              gd (vl10_3.length == vl2_7.length) <|
              some (.inl (vl10_3, vx, vr7, vx10_1, decide ((IntKind.wrap .i64 ((IntKind.wrap .i64 (vx1 - vx)).tdiv 8)) ≤ (IntKind.wrap .i64 (vx1 - vr7))), vr1_2))))
        | .inr vl11_1 =>
          some (.inr vl11_1)))

noncomputable def pQn (c : α → α → Option Int) : Nat → (List α) → Int → Int → Int → Option ((List α))
  | 0, _, _, _, _ => none
  | n + 1, qx, qx1, qx2, qx3 =>
  (loopO (pQx1 c (pQn c n)) (qx, qx1, qx2, qx3, true, true)).bind fun vl12_1 =>
  some vl12_1

noncomputable def pQ (c : α → α → Option Int) (qx : List α) (qx1 : Int) (qx2 : Int) (qx3 : Int) : Option ((List α)) := fixO fun n => pQn c n qx qx1 qx2 qx3
theorem fixO_20 {β : Type} {g : Nat → Option β} {r : β} (h : g 20 = some r) : fixO g = some r := by
  unfold fixO
  rw [h]
/-! ### Places -/
def G (d : α) (l : List α) (k : Nat) : α := l.getD k d
theorem at_G {d : α} {l : List α} {k : Nat} (h : k < l.length) : at? l (k : Int) = some (G d l k) := by
  rw [at_nat h]
  unfold G
  rw [List.getD_eq_getElem?_getD, List.getElem?_eq_getElem h]
  rfl
def swpQ (d : α) (l : List α) (i j : Nat) : List α := (l.set i (G d l j)).set j (G d l i)
theorem swp_len (d : α) (l : List α) (i j : Nat) : (swpQ d l i j).length = l.length := by unfold swpQ; simp
theorem G_set {d : α} {l : List α} {i k : Nat} {x : α} (hi : i < l.length) : G d (l.set i x) k = if i = k then x else G d l k := by
  unfold G
  rw [List.getD_eq_getElem?_getD, List.getD_eq_getElem?_getD, List.getElem?_set]
  by_cases h : i = k
  · subst h; simp [hi]
  · simp [h]
theorem G_swp {d : α} {l : List α} {i j k : Nat} (hi : i < l.length) (hj : j < l.length) : G d (swpQ d l i j) k = if j = k then G d l i else if i = k then G d l j else G d l k := by
  unfold swpQ
  rw [G_set (by simpa using hj), G_set hi]
theorem swp_perm {d : α} {l : List α} {i j : Nat} (hi : i < l.length) (hj : j < l.length) : (swpQ d l i j).Perm l := by
  have h1 := Array.swap_perm (xs := l.toArray) (i := i) (j := j) (by simpa using hi) (by simpa using hj)
  have h2 := Array.perm_iff_toList_perm.1 h1
  have e1 : G d l i = l[i] := by unfold G; rw [List.getD_eq_getElem?_getD, List.getElem?_eq_getElem hi]; rfl
  have e2 : G d l j = l[j] := by unfold G; rw [List.getD_eq_getElem?_getD, List.getElem?_eq_getElem hj]; rfl
  unfold swpQ
  rw [e1, e2]
  simpa [Array.swap] using h2
/-- what becomes of a list, where only a part of it is touched -/
structure Rg (d : α) (a b : Nat) (l l' : List α) : Prop where
  perm : l'.Perm l
  out : ∀ i, (i < a ∨ b ≤ i) → G d l' i = G d l i
  seg : ∀ i, a ≤ i → i < b → ∃ j, a ≤ j ∧ j < b ∧ G d l' i = G d l j
theorem Rg.len {d : α} {a b : Nat} {l l' : List α} (h : Rg d a b l l') : l'.length = l.length := h.perm.length_eq
theorem Rg.refl (d : α) (a b : Nat) (l : List α) : Rg d a b l l := ⟨List.Perm.refl _, fun _ _ => rfl, fun i h1 h2 => ⟨i, h1, h2, rfl⟩⟩
theorem Rg.trans {d : α} {a b : Nat} {l m r : List α} (h1 : Rg d a b l m) (h2 : Rg d a b m r) : Rg d a b l r :=
  ⟨h2.perm.trans h1.perm, fun i h => (h2.out i h).trans (h1.out i h), fun i q1 q2 => by
    obtain ⟨j, j1, j2, j3⟩ := h2.seg i q1 q2
    obtain ⟨k, k1, k2, k3⟩ := h1.seg j j1 j2
    exact ⟨k, k1, k2, j3.trans k3⟩⟩
theorem Rg.mono {d : α} {a b a' b' : Nat} {l m : List α} (h : Rg d a b l m) (ha : a' ≤ a) (hb : b ≤ b') : Rg d a' b' l m :=
  ⟨h.perm, fun i q => h.out i (by omega), fun i q1 q2 => by
    by_cases hi : a ≤ i ∧ i < b
    · obtain ⟨j, j1, j2, j3⟩ := h.seg i hi.1 hi.2
      exact ⟨j, by omega, by omega, j3⟩
    · exact ⟨i, q1, q2, h.out i (by omega)⟩⟩
theorem rg_swp {d : α} {l : List α} {a b i j : Nat} (hi : a ≤ i ∧ i < b) (hj : a ≤ j ∧ j < b) (hil : i < l.length) (hjl : j < l.length) : Rg d a b l (swpQ d l i j) := by
  refine ⟨swp_perm hil hjl, fun k hk => ?_, fun k k1 k2 => ?_⟩
  · rw [G_swp hil hjl, if_neg (by omega), if_neg (by omega)]
  · rw [G_swp hil hjl]
    by_cases h1 : j = k
    · rw [if_pos h1]; exact ⟨i, hi.1, hi.2, rfl⟩
    · rw [if_neg h1]
      by_cases h2 : i = k
      · rw [if_pos h2]; exact ⟨j, hj.1, hj.2, rfl⟩
      · rw [if_neg h2]; exact ⟨k, k1, k2, rfl⟩
theorem w_nat {n : Int} {k : Nat} (h : n = (k : Int)) (hk : k ≤ 100000) : IntKind.wrap .i64 n = (k : Int) := by subst h; exact wrap64 (by omega) (by omega)

variable {d : α} {f : α → α → Int} {c : α → α → Option Int} (hc : ∀ x y, c x y = some (f x y)) (anti : ∀ x y, f y x = - f x y) (tr : ∀ x y z, f x y ≤ 0 → f y z ≤ 0 → f x z ≤ 0)
include hc
/-! ### The place of the middle one -/
theorem pO_ok {l : List α} {lo hi x y s : Int} (hl : (hi : Int) ≤ l.length) (h0 : 0 ≤ lo) (hx : lo ≤ x ∧ x < hi) (hy : lo ≤ y ∧ y < hi) (hs : 0 ≤ s ∧ s ≤ 1000) : Ok (pO c l x y s) (fun r => (s ≤ r.1 ∧ r.1 ≤ s + 1) ∧ (lo ≤ r.2.1 ∧ r.2.1 < hi) ∧ lo ≤ r.2.2 ∧ r.2.2 < hi) := by
  unfold pO
  rw [at_lt (by omega) (by omega), at_lt (by omega) (by omega)]
  simp only [Option.bind_some, hc]
  refine .cond (fun _ => .some ⟨?_, hy, hx⟩) (fun _ => .some ⟨by simp only; omega, hx, hy⟩)
  rw [wrap64 (by omega) (by omega)]
  simp only; omega
theorem pM_ok {l : List α} {lo hi x y z s : Int} (hl : (hi : Int) ≤ l.length) (h0 : 0 ≤ lo) (hx : lo ≤ x ∧ x < hi) (hy : lo ≤ y ∧ y < hi) (hz : lo ≤ z ∧ z < hi) (hs : 0 ≤ s ∧ s ≤ 900) : Ok (pM c l x y z s) (fun r => (s ≤ r.1 ∧ r.1 ≤ s + 3) ∧ lo ≤ r.2 ∧ r.2 < hi) := by
  unfold pM
  refine (pO_ok hc hl h0 hx hy (by omega)).bind fun ⟨s1, x1, y1⟩ ⟨g1, g2, g3⟩ => ?_
  simp only at g1 g2 g3
  refine (pO_ok hc hl h0 g3 hz (by omega)).bind fun ⟨s2, x2, y2⟩ ⟨k1, k2, k3⟩ => ?_
  simp only at k1 k2 k3
  refine (pO_ok hc hl h0 g2 k2 (by omega)).bind fun ⟨s3, x3, y3⟩ ⟨m1, m2, m3⟩ => ?_
  simp only at m1 m2 m3
  exact .some ⟨by simp only; omega, m3⟩
theorem pC_ok {l : List α} {a b : Nat} (hl : b ≤ l.length) (hl2 : l.length ≤ 1000) (hab : a + 13 ≤ b ∧ b ≤ a + 24) : Ok (pC c l a b) (fun r => ((a : Int) ≤ r.1 ∧ r.1 < b) ∧ r.2 ≠ 2) := by
  have w0 : IntKind.wrap .i64 ((b : Int) - a) = ((b - a : Nat) : Int) := w_nat (by omega) (by omega)
  obtain ⟨Q, hQ, hQ4⟩ : ∃ Q : Nat, ((b - a : Nat) : Int).tdiv 4 = (Q : Int) ∧ 4 * Q ≤ b - a := ⟨(b - a) / 4, by rw [Int.tdiv_eq_ediv_of_nonneg (by omega)]; omega, by omega⟩
  have w3 : IntKind.wrap .i64 (Q : Int) = Q := w_nat rfl (by omega)
  have m1 : IntKind.wrap .i64 ((Q : Int) * 1) = Q := w_nat (by omega) (by omega)
  have m2 : IntKind.wrap .i64 ((Q : Int) * 2) = ((Q * 2 : Nat) : Int) := w_nat (by omega) (by omega)
  have m3 : IntKind.wrap .i64 ((Q : Int) * 3) = ((Q * 3 : Nat) : Int) := w_nat (by omega) (by omega)
  have i1 : IntKind.wrap .i64 ((a : Int) + Q) = ((a + Q : Nat) : Int) := w_nat (by omega) (by omega)
  have i2 : IntKind.wrap .i64 ((a : Int) + ((Q * 2 : Nat) : Int)) = ((a + Q * 2 : Nat) : Int) := w_nat (by omega) (by omega)
  have i3 : IntKind.wrap .i64 ((a : Int) + ((Q * 3 : Nat) : Int)) = ((a + Q * 3 : Nat) : Int) := w_nat (by omega) (by omega)
  have n50 : ¬ (50 : Int) ≤ ((b - a : Nat) : Int) := by omega
  have n8 : (8 : Int) ≤ ((b - a : Nat) : Int) := by omega
  unfold pC pCx1 pCx2
  simp only [w0, hQ, w3, m1, m2, m3, i1, i2, i3, n50, n8, decide_true, decide_false, cond_true, cond_false, Option.bind_some]
  refine Ok.bind (P := fun r : Int × Int => (0 ≤ r.1 ∧ r.1 ≤ 3) ∧ (a : Int) ≤ r.2 ∧ r.2 < b) ?_ fun ⟨s, m⟩ ⟨h1, h2⟩ => ?_
  · exact (pM_ok hc (lo := a) (hi := b) (by omega) (by omega) (by omega) (by omega) (by omega) (by omega)).bind fun ⟨s, m⟩ ⟨g1, g2⟩ => .some ⟨by simp only at g1 ⊢; omega, g2⟩
  · simp only at h1 h2
    refine .cond (fun _ => .some ⟨h2, by simp⟩) fun _ => .cond (fun h12 => ?_) fun _ => .some ⟨h2, by simp⟩
    have : s = 12 := by simpa using h12
    omega
/-! ### Whether it is in order already -/
include anti in
theorem pI_ok {l : List α} {a b : Nat} (hl : b ≤ l.length) (hl2 : l.length ≤ 1000) (hab : a < b ∧ b < a + 50) : ∃ g, pI c l a b = some (l, g) ∧ (g = true → ∀ i, a ≤ i → i + 1 < b → f (G d l i) (G d l (i + 1)) ≤ 0) := by
  have w1 : IntKind.wrap .i64 ((a : Int) + 1) = ((a + 1 : Nat) : Int) := w_nat (by omega) (by omega)
  have w0 : IntKind.wrap .i64 ((b : Int) - a) = ((b - a : Nat) : Int) := w_nat (by omega) (by omega)
  have loop : Ok (loopO (pIx3 c b l) ((a + 1 : Nat) : Int)) (fun r => r = (b : Int) → ∀ i, a ≤ i → i + 1 < b → f (G d l i) (G d l (i + 1)) ≤ 0) := by
    refine loop_ok (fun s : Int => ∃ k : Nat, s = (k : Int) ∧ a + 1 ≤ k ∧ k ≤ b ∧ ∀ i, a ≤ i → i + 1 < k → f (G d l i) (G d l (i + 1)) ≤ 0) (fun s => ((b : Int) - s).toNat) ?_ ⟨a + 1, rfl, by omega, by omega, fun i h1 h2 => by omega⟩
    rintro _ ⟨k, rfl, k1, k2, k3⟩
    unfold pIx3 pIx4
    by_cases hk : k < b
    · have hkb : (k : Int) < b := by omega
      have w2 : IntKind.wrap .i64 ((k : Int) - 1) = ((k - 1 : Nat) : Int) := w_nat (by omega) (by omega)
      have w3 : IntKind.wrap .i64 ((k : Int) + 1) = ((k + 1 : Nat) : Int) := w_nat (by omega) (by omega)
      simp only [hkb, decide_true, cond_true, w2, w3, at_G (d := d) (show k < l.length by omega), at_G (d := d) (show k - 1 < l.length by omega), Option.bind_some, hc]
      refine .cond (fun h => .some ⟨⟨k + 1, rfl, by omega, by omega, fun i i1 i2 => ?_⟩, by omega⟩) (fun h => .some fun he => by omega)
      by_cases hik : i + 1 < k
      · exact k3 i i1 hik
      · have : i = k - 1 := by omega
        subst this
        have h : ¬ f (G d l k) (G d l (k - 1)) < 0 := by simpa using h
        rw [show k - 1 + 1 = k by omega]
        have := anti (G d l (k - 1)) (G d l k)
        omega
    · have hkb : ¬ (k : Int) < b := by omega
      simp only [hkb, decide_false, cond_false, Option.bind_some]
      exact .some fun he i i1 i2 => k3 i i1 (by omega)
  obtain ⟨r, r1, r2⟩ := loop
  have hx1 : pIx1 c (a : Int) b (l, ((a + 1 : Nat) : Int), 0) = some (.inr (.inr (l, decide (r = (b : Int))))) := by
    unfold pIx1 pIx2
    have n50 : ((b - a : Nat) : Int) < 50 := by omega
    simp only [show (0 : Int) < 5 by decide, decide_true, cond_true, r1, Option.bind_some, w0, n50]
    by_cases hr : r = (b : Int)
    · simp [hr]
    · simp [hr]
  refine ⟨decide (r = (b : Int)), ?_, fun hg => r2 (by simpa using hg)⟩
  unfold pI
  rw [w1, loop_out hx1]
  rfl
/-! ### Two ends that come together -/
omit hc
theorem up_loop {g : Int → Option (Int ⊕ Int)} {q : Nat → Bool} {i j : Nat} (hij : i ≤ j + 1) (hj : j ≤ 1000)
    (hg : ∀ x : Nat, i ≤ x → x ≤ j + 1 → g x = some (if x ≤ j ∧ q x = true then .inl ((x + 1 : Nat) : Int) else .inr (x : Int))) :
    ∃ x : Nat, loopO g i = some (x : Int) ∧ i ≤ x ∧ x ≤ j + 1 ∧ (∀ k, i ≤ k → k < x → q k = true) ∧ (x ≤ j → q x = false) := by
  have := loop_ok (f := g) (Q := fun r => ∃ x : Nat, r = (x : Int) ∧ i ≤ x ∧ x ≤ j + 1 ∧ (∀ k, i ≤ k → k < x → q k = true) ∧ (x ≤ j → q x = false)) (fun s : Int => ∃ x : Nat, s = (x : Int) ∧ i ≤ x ∧ x ≤ j + 1 ∧ ∀ k, i ≤ k → k < x → q k = true) (fun s => ((j : Int) + 1 - s).toNat) (by
    rintro _ ⟨x, rfl, x1, x2, x3⟩
    rw [hg x x1 x2]
    by_cases h : x ≤ j ∧ q x = true
    · rw [if_pos h]
      refine .some ⟨⟨x + 1, rfl, by omega, by omega, fun k k1 k2 => ?_⟩, by omega⟩
      by_cases hk : k < x
      · exact x3 k k1 hk
      · have : k = x := by omega
        subst this; exact h.2
    · rw [if_neg h]
      refine .some ⟨x, rfl, x1, x2, x3, fun hx => ?_⟩
      cases hq : q x with
      | false => rfl
      | true => exact absurd ⟨hx, hq⟩ h) (s := (i : Int)) ⟨i, rfl, by omega, hij, fun k h1 h2 => by omega⟩
  obtain ⟨r, r1, x, rfl, r2⟩ := this
  exact ⟨x, r1, r2⟩
theorem dn_loop {g : Int → Option (Int ⊕ Int)} {q : Nat → Bool} {i j : Nat} (hi : 1 ≤ i) (hij : i ≤ j + 1) (hj : j ≤ 1000)
    (hg : ∀ y : Nat, i ≤ y + 1 → y ≤ j → g y = some (if i ≤ y ∧ q y = true then .inl ((y - 1 : Nat) : Int) else .inr (y : Int))) :
    ∃ y : Nat, loopO g j = some (y : Int) ∧ i ≤ y + 1 ∧ y ≤ j ∧ (∀ k, y < k → k ≤ j → q k = true) ∧ (i ≤ y → q y = false) := by
  have := loop_ok (f := g) (Q := fun r => ∃ y : Nat, r = (y : Int) ∧ i ≤ y + 1 ∧ y ≤ j ∧ (∀ k, y < k → k ≤ j → q k = true) ∧ (i ≤ y → q y = false)) (fun s : Int => ∃ y : Nat, s = (y : Int) ∧ i ≤ y + 1 ∧ y ≤ j ∧ ∀ k, y < k → k ≤ j → q k = true) (fun s => s.toNat) (by
    rintro _ ⟨y, rfl, y1, y2, y3⟩
    rw [hg y y1 y2]
    by_cases h : i ≤ y ∧ q y = true
    · rw [if_pos h]
      refine .some ⟨⟨y - 1, rfl, by omega, by omega, fun k k1 k2 => ?_⟩, by omega⟩
      by_cases hk : y < k
      · exact y3 k hk k2
      · have : k = y := by omega
        subst this; exact h.2
    · rw [if_neg h]
      refine .some ⟨y, rfl, y1, y2, y3, fun hy => ?_⟩
      cases hq : q y with
      | false => rfl
      | true => exact absurd ⟨hy, hq⟩ h) (s := (j : Int)) ⟨j, rfl, by omega, Nat.le_refl _, fun k h1 h2 => by omega⟩
  obtain ⟨r, r1, y, rfl, r2⟩ := this
  exact ⟨y, r1, r2⟩
include hc
/-! ### Partition -/
/-- what holds while the ends come together -/
structure PJ (d : α) (q : α → Bool) (pv : α) (a b : Nat) (l0 l : List α) (i j : Nat) : Prop where
  rg : Rg d a b l0 l
  pv : G d l a = pv
  i1 : a + 1 ≤ i
  ij : i ≤ j + 1
  ja : a ≤ j
  jb : j + 1 ≤ b
  lo : ∀ k, a + 1 ≤ k → k < i → q (G d l k) = true
  hi : ∀ k, j < k → k < b → q (G d l k) = false
omit hc
/-- both ends go on as far as they can -/
theorem pj_ends {q : α → Bool} {pv : α} {a b : Nat} {l0 l : List α} {i j : Nat} (J : PJ d q pv a b l0 l i j) (hl : b ≤ l.length) (hl2 : l.length ≤ 1000) {g1 : Int → Option (Int ⊕ Int)} {g2 : Int → Int → Option (Int ⊕ Int)}
    (h1 : ∀ x : Nat, i ≤ x → x ≤ j + 1 → g1 x = some (if x ≤ j ∧ q (G d l x) = true then .inl ((x + 1 : Nat) : Int) else .inr (x : Int)))
    (h2 : ∀ x y : Nat, i ≤ x → x ≤ y + 1 → y ≤ j → g2 x y = some (if x ≤ y ∧ (!q (G d l y)) = true then .inl ((y - 1 : Nat) : Int) else .inr (y : Int))) :
    ∃ x y : Nat, loopO g1 i = some (x : Int) ∧ loopO (g2 x) j = some (y : Int) ∧ PJ d q pv a b l0 l x y ∧ i ≤ x ∧ y ≤ j ∧ (x ≤ y → q (G d l x) = false ∧ q (G d l y) = true) := by
  obtain ⟨x, x1, x2, x3, x4, x5⟩ := up_loop (g := g1) (q := fun k => q (G d l k)) J.ij (by have := J.jb; omega) h1
  obtain ⟨y, y1, y2, y3, y4, y5⟩ := dn_loop (g := g2 x) (q := fun k => !q (G d l k)) (i := x) (j := j) (by have := J.i1; omega) x3 (by have := J.jb; omega) (fun y h3 h4 => h2 x y x2 h3 h4)
  have i1 := J.i1
  have jb := J.jb
  refine ⟨x, y, x1, y1, ⟨J.rg, J.pv, by omega, by omega, by omega, by omega, fun k k1 k2 => ?_, fun k k1 k2 => ?_⟩, x2, y3, fun hxy => ?_⟩
  · by_cases hk : k < i
    · exact J.lo k k1 hk
    · exact x4 k (by omega) k2
  · by_cases hk : j < k
    · exact J.hi k hk k2
    · simpa using y4 k k1 (by omega)
  · exact ⟨x5 (by omega), by simpa using y5 hxy⟩
/-- two that stand wrong change places -/
theorem pj_swap {q : α → Bool} {pv : α} {a b : Nat} {l0 l : List α} {x y : Nat} (J : PJ d q pv a b l0 l x y) (hl : b ≤ l.length) (hxy : x ≤ y) (h : q (G d l x) = false ∧ q (G d l y) = true) : PJ d q pv a b l0 (swpQ d l x y) (x + 1) (y - 1) ∧ x < y := by
  have hne : x ≠ y := fun e => by subst e; rw [h.1] at h; cases h.2
  have i1 := J.i1
  have jb := J.jb
  have hx : x < l.length := by omega
  have hy : y < l.length := by omega
  refine ⟨⟨J.rg.trans (rg_swp ⟨by omega, by omega⟩ ⟨by omega, by omega⟩ hx hy), ?_, by omega, by omega, by omega, by omega, fun k k1 k2 => ?_, fun k k1 k2 => ?_⟩, by omega⟩
  · rw [G_swp hx hy, if_neg (by omega), if_neg (by omega)]
    exact J.pv
  · rw [G_swp hx hy, if_neg (by omega)]
    by_cases hk : x = k
    · rw [if_pos hk]; exact h.2
    · rw [if_neg hk]; exact J.lo k k1 (by omega)
  · rw [G_swp hx hy]
    by_cases hk : y = k
    · rw [if_pos hk]; exact h.1
    · rw [if_neg hk, if_neg (by omega)]; exact J.hi k (by omega) k2
include hc
/-- parted at m -/
structure Pt (d : α) (f : α → α → Int) (a b : Nat) (l : List α) (m : Nat) : Prop where
  ma : a ≤ m
  mb : m < b
  lo : ∀ k, a ≤ k → k < m → f (G d l k) (G d l m) ≤ 0
  hi : ∀ k, m < k → k < b → f (G d l m) (G d l k) ≤ 0
include anti in
theorem pj_end {pv : α} {a b : Nat} {l0 l : List α} {x y : Nat} (J : PJ d (fun z => decide (f z pv < 0)) pv a b l0 l x y) (hl : b ≤ l.length) (hxy : y < x) : Rg d a b l0 (swpQ d l y a) ∧ Pt d f a b (swpQ d l y a) y := by
  have i1 := J.i1
  have jb := J.jb
  have ja := J.ja
  have hy : y < l.length := by omega
  have ha : a < l.length := by omega
  have hm : G d (swpQ d l y a) y = pv := by
    rw [G_swp hy ha]
    by_cases h : a = y
    · rw [if_pos h, ← h]; exact J.pv
    · rw [if_neg h, if_pos rfl]; exact J.pv
  refine ⟨J.rg.trans (rg_swp ⟨by omega, by omega⟩ ⟨by omega, by omega⟩ hy ha), ⟨ja, by omega, fun k k1 k2 => ?_, fun k k1 k2 => ?_⟩⟩
  · rw [hm, G_swp hy ha]
    by_cases h : a = k
    · rw [if_pos h]
      have := of_decide_eq_true (J.lo y (by omega) (by omega))
      omega
    · rw [if_neg h, if_neg (by omega)]
      have := of_decide_eq_true (J.lo k (by omega) (by omega))
      omega
  · rw [hm, G_swp hy ha, if_neg (by omega), if_neg (by omega)]
    have h1 := of_decide_eq_false (J.hi k k1 k2)
    have := anti pv (G d l k)
    omega
include anti in
theorem pP_ok {l : List α} {a b p : Nat} (hl : b ≤ l.length) (hl2 : l.length ≤ 1000) (hp : a ≤ p ∧ p < b) : Ok (pP c l a b p) (fun r => Rg d a b l r.1 ∧ ∃ m : Nat, r.2.1 = (m : Int) ∧ Pt d f a b r.1 m) := by
  have hpl : p < l.length := by omega
  have hal : a < l.length := by omega
  have wb : IntKind.wrap .i64 ((b : Int) - 1) = ((b - 1 : Nat) : Int) := w_nat (by omega) (by omega)
  have wa : IntKind.wrap .i64 ((a : Int) + 1) = ((a + 1 : Nat) : Int) := w_nat (by omega) (by omega)
  have el1 : (l.set a (G d l p)).set p (G d l a) = swpQ d l a p := rfl
  have hl1 : (swpQ d l a p).length = l.length := swp_len _ _ _ _
  have J0 : PJ d (fun z => decide (f z (G d (swpQ d l a p) a) < 0)) (G d (swpQ d l a p) a) a b l (swpQ d l a p) (a + 1) (b - 1) := ⟨rg_swp ⟨by omega, by omega⟩ hp hal hpl, rfl, by omega, by omega, by omega, by omega, fun k k1 k2 => by omega, fun k k1 k2 => by omega⟩
  have hup : ∀ {m : List α} {j : Nat} (hm : b ≤ m.length) (hj : j < b) (g : Int → Option (Int ⊕ Int)) (gq : Int → Option Bool), (∀ x : Int, g x = (gq x).bind fun v => cond v (some (.inl (IntKind.wrap .i64 (x + 1)))) (some (.inr x))) →
      (∀ x : Int, gq x = cond (decide (x ≤ (j : Int))) ((at? m x).bind fun v => (at? m (a : Int)).bind fun w => (c v w).bind fun z => some (decide (z < 0))) (some false)) →
      ∀ x : Nat, a + 1 ≤ x → x ≤ j + 1 → g x = some (if x ≤ j ∧ decide (f (G d m x) (G d m a) < 0) = true then .inl ((x + 1 : Nat) : Int) else .inr (x : Int)) := by
    intro m j hm hj g gq e1 e2 x x1 x2
    rw [e1, e2]
    by_cases hx : x ≤ j
    · have hx' : (x : Int) ≤ j := by omega
      have w : IntKind.wrap .i64 ((x : Int) + 1) = ((x + 1 : Nat) : Int) := w_nat (by omega) (by omega)
      simp only [hx', decide_true, cond_true, at_G (d := d) (show x < m.length by omega), at_G (d := d) (show a < m.length by omega), Option.bind_some, hc, w, hx, true_and]
      by_cases hf : f (G d m x) (G d m a) < 0 <;> simp [hf]
    · have hx' : ¬ (x : Int) ≤ j := by omega
      simp [hx', hx]
  have hdn : ∀ {m : List α} (x : Nat) {j : Nat} (hm : b ≤ m.length) (hj : j < b) (g : Int → Option (Int ⊕ Int)) (gq : Int → Option Bool), a + 1 ≤ x → (∀ y : Int, g y = (gq y).bind fun v => cond v (some (.inl (IntKind.wrap .i64 (y - 1)))) (some (.inr y))) →
      (∀ y : Int, gq y = cond (decide ((x : Int) ≤ y)) ((at? m y).bind fun v => (at? m (a : Int)).bind fun w => (c v w).bind fun z => some (!(decide (z < 0)))) (some false)) →
      ∀ y : Nat, x ≤ y + 1 → y ≤ j → g y = some (if x ≤ y ∧ (!decide (f (G d m y) (G d m a) < 0)) = true then .inl ((y - 1 : Nat) : Int) else .inr (y : Int)) := by
    intro m x j hm hj g gq x1 e1 e2 y y1 y2
    rw [e1, e2]
    by_cases hx : x ≤ y
    · have hx' : (x : Int) ≤ y := by omega
      have w : IntKind.wrap .i64 ((y : Int) - 1) = ((y - 1 : Nat) : Int) := w_nat (by omega) (by omega)
      simp only [hx', decide_true, cond_true, at_G (d := d) (show y < m.length by omega), at_G (d := d) (show a < m.length by omega), Option.bind_some, hc, w, hx, true_and]
      by_cases hf : f (G d m y) (G d m a) < 0 <;> simp [hf]
    · have hx' : ¬ (x : Int) ≤ y := by omega
      simp [hx', hx]
  have loop5 : ∀ {m : List α} {i j : Nat}, PJ d (fun z => decide (f z (G d (swpQ d l a p) a) < 0)) (G d (swpQ d l a p) a) a b l m i j → Ok (loopO (pPx5 c (a : Int)) (m, (i : Int), (j : Int))) (fun r => ∃ (q : List α) (x y : Nat), r = (q, (y : Int)) ∧ PJ d (fun z => decide (f z (G d (swpQ d l a p) a) < 0)) (G d (swpQ d l a p) a) a b l q x y ∧ y < x) := by
    intro m i j J
    refine loop_ok (fun s : List α × Int × Int => ∃ (q : List α) (i j : Nat), s = (q, (i : Int), (j : Int)) ∧ PJ d (fun z => decide (f z (G d (swpQ d l a p) a) < 0)) (G d (swpQ d l a p) a) a b l q i j) (fun s => s.2.2.toNat) ?_ ⟨m, i, j, rfl, J⟩
    rintro _ ⟨q, i, j, rfl, J⟩
    have hql := J.rg.len
    have jb := J.jb
    obtain ⟨x, y, x1, y1, J2, hix, hyj, hxy⟩ := pj_ends J (by omega) (by omega) (g1 := pPx6 c a q j) (g2 := fun x => pPx8 c a q x)
      (fun x h1 h2 => by rw [← J.pv]; exact hup (m := q) (j := j) (by omega) (by omega) (pPx6 c a q j) (pPx7 c a q j) (fun _ => rfl) (fun _ => rfl) x (by have := J.i1; omega) h2)
      (fun x y h1 h2 h3 => by rw [← J.pv]; exact hdn (m := q) x (j := j) (by omega) (by omega) (pPx8 c a q x) (pPx9 c a q x) (by have := J.i1; omega) (fun _ => rfl) (fun _ => rfl) y h2 h3)
    unfold pPx5
    simp only [x1, y1, Option.bind_some]
    by_cases hlt : y < x
    · have : (y : Int) < x := by omega
      simp only [this, decide_true, cond_true]
      exact .some ⟨q, x, y, rfl, J2, hlt⟩
    · have : ¬ (y : Int) < x := by omega
      obtain ⟨J3, hne⟩ := pj_swap J2 (by omega) (by omega) (hxy (by omega))
      have hyl : y < q.length := by omega
      have hxl : x < q.length := by omega
      have wx : IntKind.wrap .i64 ((x : Int) + 1) = ((x + 1 : Nat) : Int) := w_nat (by omega) (by omega)
      have wy : IntKind.wrap .i64 ((y : Int) - 1) = ((y - 1 : Nat) : Int) := w_nat (by omega) (by omega)
      simp only [this, decide_false, cond_false, at_G (d := d) hyl, at_G (d := d) hxl, Option.bind_some, Int.toNat_natCast, at_G (d := d) (l := q.set x (G d q y)) (k := y) (by simpa using hyl), wx, wy]
      exact .some ⟨⟨swpQ d q x y, x + 1, y - 1, rfl, J3⟩, by simp only; omega⟩
  obtain ⟨x, y, x1, y1, J2, hix, hyj, hxy⟩ := pj_ends J0 (by omega) (by omega) (g1 := pPx1 c l a b p (G d l p) (G d l a)) (g2 := fun x => pPx3 c l a p (G d l p) (G d l a) x)
    (fun x h1 h2 => hup (m := swpQ d l a p) (j := b - 1) (by omega) (by omega) (pPx1 c l a b p (G d l p) (G d l a)) (pPx2 c l a b p (G d l p) (G d l a)) (fun _ => rfl) (fun x => by unfold pPx2; rw [wb]; rfl) x h1 h2)
    (fun x y h1 h2 h3 => hdn (m := swpQ d l a p) x (j := b - 1) (by omega) (by omega) (pPx3 c l a p (G d l p) (G d l a) x) (pPx4 c l a p (G d l p) (G d l a) x) h1 (fun _ => rfl) (fun _ => rfl) y h2 h3)
  have jb2 := J2.jb
  have i12 := J2.i1
  have hyl : y < (swpQ d l a p).length := by omega
  have hal2 : a < (swpQ d l a p).length := by omega
  unfold pP
  simp only [at_G (d := d) hpl, at_G (d := d) hal, at_G (d := d) (l := l.set a (G d l p)) (k := p) (by simpa using hpl), Option.bind_some, Int.toNat_natCast, el1, wa, wb, x1, y1]
  by_cases hlt : y < x
  · have : (y : Int) < x := by omega
    obtain ⟨e1, e2⟩ := pj_end hc anti J2 (by omega) hlt
    simp only [this, decide_true, cond_true, at_G (d := d) hyl, at_G (d := d) hal2, Option.bind_some, at_G (d := d) (l := (swpQ d l a p).set y (G d (swpQ d l a p) a)) (k := a) (by simpa using hal2)]
    exact .some ⟨e1, y, rfl, e2⟩
  · have : ¬ (y : Int) < x := by omega
    obtain ⟨J3, hne⟩ := pj_swap J2 (by omega) (by omega) (hxy (by omega))
    have hxl : x < (swpQ d l a p).length := by omega
    have wx : IntKind.wrap .i64 ((x : Int) + 1) = ((x + 1 : Nat) : Int) := w_nat (by omega) (by omega)
    have wy : IntKind.wrap .i64 ((y : Int) - 1) = ((y - 1 : Nat) : Int) := w_nat (by omega) (by omega)
    simp only [this, decide_false, cond_false, at_G (d := d) hyl, at_G (d := d) hxl, Option.bind_some, at_G (d := d) (l := (swpQ d l a p).set x (G d (swpQ d l a p) y)) (k := y) (by simpa using hyl), wx, wy]
    refine (loop5 J3).bind fun r ⟨q, x', y', hr, J4, hlt'⟩ => ?_
    subst hr
    have hql := J4.rg.len
    have jb4 := J4.jb
    have hy4 : y' < q.length := by omega
    have ha4 : a < q.length := by omega
    obtain ⟨e1, e2⟩ := pj_end hc anti J4 (by omega) hlt'
    simp only [at_G (d := d) hy4, at_G (d := d) ha4, Option.bind_some, Int.toNat_natCast, at_G (d := d) (l := q.set y' (G d q a)) (k := a) (by simpa using ha4)]
    exact .some ⟨e1, y', rfl, e2⟩

include anti in
/-- those that are like the least come first -/
theorem pE_ok {l : List α} {a b p : Nat} (hl : b ≤ l.length) (hl2 : l.length ≤ 1000) (hp : a ≤ p ∧ p < b) : Ok (pE c l a b p) (fun r => Rg d a b l r.1 ∧ ∃ m : Nat, r.2 = (m : Int) ∧ a + 1 ≤ m ∧ m ≤ b ∧ ∀ k, a ≤ k → k < m → f (G d r.1 k) (G d l p) ≤ 0) := by
  have hpl : p < l.length := by omega
  have hal : a < l.length := by omega
  have wb : IntKind.wrap .i64 ((b : Int) - 1) = ((b - 1 : Nat) : Int) := w_nat (by omega) (by omega)
  have wa : IntKind.wrap .i64 ((a : Int) + 1) = ((a + 1 : Nat) : Int) := w_nat (by omega) (by omega)
  have el1 : (l.set a (G d l p)).set p (G d l a) = swpQ d l a p := rfl
  have hpv : G d (swpQ d l a p) a = G d l p := by
    rw [G_swp hal hpl]
    by_cases h : p = a
    · rw [if_pos h, h]
    · rw [if_neg h, if_pos rfl]
  have J0 : PJ d (fun z => !decide (f (G d l p) z < 0)) (G d l p) a b l (swpQ d l a p) (a + 1) (b - 1) := ⟨rg_swp ⟨by omega, by omega⟩ hp hal hpl, hpv, by omega, by omega, by omega, by omega, fun k k1 k2 => by omega, fun k k1 k2 => by omega⟩
  have key : Ok (loopO (pEx1 c (a : Int)) (swpQ d l a p, ((a + 1 : Nat) : Int), ((b - 1 : Nat) : Int))) (fun r => ∃ (q : List α) (x y : Nat), r = (q, (x : Int)) ∧ PJ d (fun z => !decide (f (G d l p) z < 0)) (G d l p) a b l q x y) := by
    refine loop_ok (fun s : List α × Int × Int => ∃ (q : List α) (i j : Nat), s = (q, (i : Int), (j : Int)) ∧ PJ d (fun z => !decide (f (G d l p) z < 0)) (G d l p) a b l q i j) (fun s => s.2.2.toNat) ?_ ⟨swpQ d l a p, a + 1, b - 1, rfl, J0⟩
    rintro _ ⟨q, i, j, rfl, J⟩
    have hql := J.rg.len
    have jb := J.jb
    have i1 := J.i1
    obtain ⟨x, y, x1, y1, J2, hix, hyj, hxy⟩ := pj_ends J (by omega) (by omega) (g1 := pEx2 c a q j) (g2 := fun x => pEx4 c a q x)
      (fun x h1 h2 => by
        unfold pEx2 pEx3
        by_cases hx : x ≤ j
        · have hx' : (x : Int) ≤ j := by omega
          have w : IntKind.wrap .i64 ((x : Int) + 1) = ((x + 1 : Nat) : Int) := w_nat (by omega) (by omega)
          simp only [hx', decide_true, cond_true, at_G (d := d) (show x < q.length by omega), at_G (d := d) (show a < q.length by omega), Option.bind_some, hc, w, hx, true_and, J.pv]
          by_cases hf : f (G d l p) (G d q x) < 0 <;> simp [hf]
        · have hx' : ¬ (x : Int) ≤ j := by omega
          simp [hx', hx])
      (fun x y h1 h2 h3 => by
        unfold pEx4 pEx5
        by_cases hx : x ≤ y
        · have hx' : (x : Int) ≤ y := by omega
          have w : IntKind.wrap .i64 ((y : Int) - 1) = ((y - 1 : Nat) : Int) := w_nat (by omega) (by omega)
          simp only [hx', decide_true, cond_true, at_G (d := d) (show y < q.length by omega), at_G (d := d) (show a < q.length by omega), Option.bind_some, hc, w, hx, true_and, J.pv]
          by_cases hf : f (G d l p) (G d q y) < 0 <;> simp [hf]
        · have hx' : ¬ (x : Int) ≤ y := by omega
          simp [hx', hx])
    unfold pEx1
    simp only [x1, y1, Option.bind_some]
    by_cases hlt : y < x
    · have : (y : Int) < x := by omega
      simp only [this, decide_true, cond_true]
      exact .some ⟨q, x, y, rfl, J2⟩
    · have : ¬ (y : Int) < x := by omega
      obtain ⟨J3, hne⟩ := pj_swap J2 (by omega) (by omega) (hxy (by omega))
      have hyl : y < q.length := by omega
      have hxl : x < q.length := by omega
      have wx : IntKind.wrap .i64 ((x : Int) + 1) = ((x + 1 : Nat) : Int) := w_nat (by omega) (by omega)
      have wy : IntKind.wrap .i64 ((y : Int) - 1) = ((y - 1 : Nat) : Int) := w_nat (by omega) (by omega)
      simp only [this, decide_false, cond_false, at_G (d := d) hyl, at_G (d := d) hxl, Option.bind_some, Int.toNat_natCast, at_G (d := d) (l := q.set x (G d q y)) (k := y) (by simpa using hyl), wx, wy]
      exact .some ⟨⟨swpQ d q x y, x + 1, y - 1, rfl, J3⟩, by simp only; omega⟩
  unfold pE
  simp only [at_G (d := d) hpl, at_G (d := d) hal, at_G (d := d) (l := l.set a (G d l p)) (k := p) (by simpa using hpl), Option.bind_some, Int.toNat_natCast, el1, wa, wb]
  refine key.bind fun r ⟨q, x, y, hr, J⟩ => ?_
  subst hr
  have i1 := J.i1
  have ij := J.ij
  have jb := J.jb
  refine .some ⟨J.rg, x, rfl, i1, by omega, fun k k1 k2 => ?_⟩
  by_cases hk : k = a
  · simp only
    rw [hk, J.pv]
    have := anti (G d l p) (G d l p)
    omega
  · have h1 := J.lo k (by omega) k2
    have h2 := anti (G d l p) (G d q k)
    have h3 : ¬ f (G d l p) (G d q k) < 0 := by simpa using h1
    show f (G d q k) (G d l p) ≤ 0
    omega
omit hc
/-! ### Patterns are broken -/
theorem andM (x : Int) (M : Nat) (hM : M = 15 ∨ M = 31) : 0 ≤ ibits .and .u64 x M ∧ ibits .and .u64 x M ≤ M := by
  have h : (BitVec.ofInt IntKind.u64.bits x &&& BitVec.ofInt IntKind.u64.bits M).toNat ≤ M := by
    rw [BitVec.toNat_and]
    rcases hM with rfl | rfl
    · exact Nat.le_trans Nat.and_le_right (by decide)
    · exact Nat.le_trans Nat.and_le_right (by decide)
  unfold ibits
  simp only
  generalize (BitVec.ofInt IntKind.u64.bits x &&& BitVec.ofInt IntKind.u64.bits M).toNat = n at h
  have : IntKind.wrap .u64 (n : Int) = (n : Int) := by
    unfold IntKind.wrap
    simp [IntKind.bits, IntKind.signed]
    omega
  rw [this]
  omega
theorem pBx2_ok {a b : Nat} {M : Nat} (hab : a + 13 ≤ b ∧ b ≤ a + 24) (hM : (M = 15 ∧ b ≤ a + 15) ∨ (M = 31 ∧ a + 16 ≤ b)) (hb : b ≤ 1000) (x : Int) : ∃ r : Nat, pBx2 a b ((M : Int) + 1) x = some (r : Int) ∧ a + r < b := by
  have w0 : IntKind.wrap .i64 ((b : Int) - a) = ((b - a : Nat) : Int) := w_nat (by omega) (by omega)
  have w15 : IntKind.wrap .u64 ((M : Int) + 1 - 1) = M := by rcases hM with ⟨rfl, _⟩ | ⟨rfl, _⟩ <;> decide
  unfold pBx2
  rw [w0, w15]
  generalize ibits .xor .u64 (ibits .xor .u64 (ibits .xor .u64 x (ishl .u64 x 13)) (ishr .u64 (ibits .xor .u64 x (ishl .u64 x 13)) 7)) (ishl .u64 (ibits .xor .u64 (ibits .xor .u64 x (ishl .u64 x 13)) (ishr .u64 (ibits .xor .u64 x (ishl .u64 x 13)) 7)) 17) = X
  obtain ⟨h1, h2⟩ := andM X M (by omega)
  generalize ibits .and .u64 X M = y at h1 h2
  have wy : IntKind.wrap .i64 y = y := wrap64 (by omega) (by omega)
  rw [wy]
  by_cases h : ((b - a : Nat) : Int) ≤ y
  · have w2 : IntKind.wrap .i64 (y - ((b - a : Nat) : Int)) = y - ((b - a : Nat) : Int) := wrap64 (by omega) (by omega)
    refine ⟨(y - ((b - a : Nat) : Int)).toNat, ?_, by omega⟩
    simp only [h, decide_true, cond_true, w2]
    congr 1
    omega
  · refine ⟨y.toNat, ?_, by omega⟩
    simp only [h, decide_false, cond_false]
    congr 1
    omega
theorem pN_all : ((List.range 12).all fun k => decide (pN ((k + 13 : Nat) : Int) = some (if k + 13 ≤ 15 then 16 else 32))) = true := by kernel_rfl
theorem pB_ok {l : List α} {a b : Nat} (hl : b ≤ l.length) (hl2 : l.length ≤ 1000) (hab : a + 13 ≤ b ∧ b ≤ a + 24) : Ok (pB l a b) (fun r => Rg d a b l r) := by
  have w0 : IntKind.wrap .i64 ((b : Int) - a) = ((b - a : Nat) : Int) := w_nat (by omega) (by omega)
  obtain ⟨M, hN, hM⟩ : ∃ M : Nat, pN ((b - a : Nat) : Int) = some ((M : Int) + 1) ∧ ((M = 15 ∧ b ≤ a + 15) ∨ (M = 31 ∧ a + 16 ≤ b)) := by
    have := of_decide_eq_true (List.all_eq_true.1 pN_all (b - a - 13) (List.mem_range.2 (by omega)))
    rw [show b - a - 13 + 13 = b - a by omega] at this
    by_cases h : b ≤ a + 15
    · exact ⟨15, by rw [this, if_pos (by omega)]; rfl, .inl ⟨rfl, h⟩⟩
    · exact ⟨31, by rw [this, if_neg (by omega)]; rfl, .inr ⟨rfl, by omega⟩⟩
  obtain ⟨Q, hQ, hQ4⟩ : ∃ Q : Nat, ((b - a : Nat) : Int).tdiv 4 = (Q : Int) ∧ 4 * Q ≤ b - a ∧ 3 ≤ Q := ⟨(b - a) / 4, by rw [Int.tdiv_eq_ediv_of_nonneg (by omega)]; omega, by omega, by omega⟩
  have w3 : IntKind.wrap .i64 (Q : Int) = Q := w_nat rfl (by omega)
  have m2 : IntKind.wrap .i64 ((Q : Int) * 2) = ((Q * 2 : Nat) : Int) := w_nat (by omega) (by omega)
  have i2 : IntKind.wrap .i64 ((a : Int) + ((Q * 2 : Nat) : Int)) = ((a + Q * 2 : Nat) : Int) := w_nat (by omega) (by omega)
  have i3 : IntKind.wrap .i64 (((a + Q * 2 : Nat) : Int) - 1) = ((a + Q * 2 - 1 : Nat) : Int) := w_nat (by omega) (by omega)
  have i4 : IntKind.wrap .i64 (((a + Q * 2 : Nat) : Int) + 1) = ((a + Q * 2 + 1 : Nat) : Int) := w_nat (by omega) (by omega)
  have n8 : (8 : Int) ≤ ((b - a : Nat) : Int) := by omega
  unfold pB
  simp only [w0, n8, decide_true, cond_true, hN, Option.bind_some, hQ, w3, m2, i2, i3]
  refine Ok.bind (P := fun r => Rg d a b l r) (loop_ok (fun s : List α × Int × Int => ∃ (q : List α) (x : Int) (k : Nat), s = (q, x, (k : Int)) ∧ a + Q * 2 - 1 ≤ k ∧ k ≤ a + Q * 2 + 2 ∧ Rg d a b l q) (fun s => ((a : Int) + Q * 2 + 2 - s.2.2).toNat) ?_ ⟨l, _, a + Q * 2 - 1, rfl, by omega, by omega, Rg.refl d a b l⟩) fun r hr => .some hr
  rintro _ ⟨q, x, k, rfl, k1, k2, R⟩
  have hql := R.len
  unfold pBx1
  simp only [w0, hQ, w3, m2, i2, i4]
  by_cases hk : k ≤ a + Q * 2 + 1
  · have hk' : (k : Int) ≤ ((a + Q * 2 + 1 : Nat) : Int) := by omega
    obtain ⟨r, r1, r2⟩ := pBx2_ok hab hM (by omega) x
    have wr : IntKind.wrap .i64 ((a : Int) + r) = ((a + r : Nat) : Int) := w_nat (by omega) (by omega)
    have wk : IntKind.wrap .i64 ((k : Int) + 1) = ((k + 1 : Nat) : Int) := w_nat (by omega) (by omega)
    have h1 : a + r < q.length := by omega
    have h2 : k < q.length := by omega
    simp only [hk', decide_true, cond_true, pX, Option.bind_some, r1, wr, wk, at_G (d := d) h1, at_G (d := d) h2, Int.toNat_natCast, at_G (d := d) (l := q.set k (G d q (a + r))) (k := a + r) (by simpa using h1)]
    exact .some ⟨⟨swpQ d q k (a + r), _, k + 1, rfl, by omega, by omega, R.trans (rg_swp ⟨by omega, by omega⟩ ⟨by omega, by omega⟩ h2 h1)⟩, by simp only; omega⟩
  · have hk' : ¬ (k : Int) ≤ ((a + Q * 2 + 1 : Nat) : Int) := by omega
    simp only [hk', decide_false, cond_false]
    exact .some R
include hc
/-! ### Insertion within a part -/
include anti tr in
theorem gIr_ok {l : List α} {a b : Nat} (hl : b ≤ l.length) (hl2 : l.length ≤ 1000) (hab : a ≤ b) : Ok (gI c l a b) (fun r => Rg d a b l r ∧ ∀ i j, a ≤ i → i < j → j < b → f (G d r i) (G d r j) ≤ 0) := by
  have wa : IntKind.wrap .i64 ((a : Int) + 1) = ((a + 1 : Nat) : Int) := w_nat (by omega) (by omega)
  have inner : ∀ {m : List α} {i : Nat}, a < i → i < b → b ≤ m.length → m.length ≤ 1000 → (∀ x y, a ≤ x → x < y → y < i → f (G d m x) (G d m y) ≤ 0) →
      Ok (loopO (gI2 c (a : Int)) (m, (i : Int))) (fun r => Rg d a b m r ∧ ∀ x y, a ≤ x → x < y → y < i + 1 → f (G d r x) (G d r y) ≤ 0) := by
    intro m i h1 h2 hm hm2 hs
    refine loop_ok (fun s : List α × Int => ∃ (q : List α) (j : Nat), s = (q, (j : Int)) ∧ a ≤ j ∧ j ≤ i ∧ Rg d a b m q ∧ ∀ x y, a ≤ x → x < y → y < i + 1 → y ≠ j → f (G d q x) (G d q y) ≤ 0) (fun s => s.2.toNat) ?_ ⟨m, i, rfl, by omega, Nat.le_refl _, Rg.refl d a b m, fun x y x1 x2 x3 x4 => hs x y x1 x2 (by omega)⟩
    rintro _ ⟨q, j, rfl, j1, j2, R, S⟩
    have hql := R.len
    unfold gI2 gI3
    by_cases hj : a < j
    · have hj' : (a : Int) < j := by omega
      have w1 : IntKind.wrap .i64 ((j : Int) - 1) = ((j - 1 : Nat) : Int) := w_nat (by omega) (by omega)
      have hjl : j < q.length := by omega
      have hjl1 : j - 1 < q.length := by omega
      simp only [hj', decide_true, cond_true, w1, at_G (d := d) hjl, at_G (d := d) hjl1, Option.bind_some, hc]
      refine .cond (fun hlt => ?_) (fun hge => .some ⟨R, fun x y x1 x2 x3 => ?_⟩)
      · have hlt : f (G d q j) (G d q (j - 1)) < 0 := by simpa using hlt
        simp only [Int.toNat_natCast, at_G (d := d) (l := q.set j (G d q (j - 1))) (k := j - 1) (by simpa using hjl1), Option.bind_some]
        refine .some ⟨⟨swpQ d q j (j - 1), j - 1, rfl, by omega, by omega, R.trans (rg_swp ⟨by omega, by omega⟩ ⟨by omega, by omega⟩ hjl hjl1), fun x y x1 x2 x3 x4 => ?_⟩, by simp only; omega⟩
        have ex : G d (swpQ d q j (j - 1)) x = if j - 1 = x then G d q j else if j = x then G d q (j - 1) else G d q x := G_swp hjl hjl1
        have ey : G d (swpQ d q j (j - 1)) y = if j = y then G d q (j - 1) else G d q y := by rw [G_swp hjl hjl1, if_neg (fun e => x4 e.symm)]
        rw [ex, ey]
        by_cases hy : j = y
        · rw [if_pos hy]
          by_cases hx : j - 1 = x
          · rw [if_pos hx]; omega
          · rw [if_neg hx, if_neg (by omega)]
            exact S x (j - 1) x1 (by omega) (by omega) (by omega)
        · rw [if_neg hy]
          by_cases hx : j - 1 = x
          · rw [if_pos hx]
            by_cases hjy : j < y
            · exact S j y (by omega) hjy x3 (by omega)
            · omega
          · rw [if_neg hx]
            by_cases hx2 : j = x
            · rw [if_pos hx2]
              exact S (j - 1) y (by omega) (by omega) x3 (fun e => hy e.symm)
            · rw [if_neg hx2]
              exact S x y x1 x2 x3 (fun e => hy e.symm)
      · have hge : ¬ f (G d q j) (G d q (j - 1)) < 0 := by simpa using hge
        by_cases hy : y = j
        · subst hy
          have h3 : f (G d q (y - 1)) (G d q y) ≤ 0 := by have := anti (G d q y) (G d q (y - 1)); omega
          by_cases hx : x = y - 1
          · rw [hx]; exact h3
          · exact tr _ _ _ (S x (y - 1) x1 (by omega) (by omega) (by omega)) h3
        · exact S x y x1 x2 x3 hy
    · have hj' : ¬ (a : Int) < j := by omega
      simp only [hj', decide_false, cond_false, Option.bind_some]
      exact .some ⟨R, fun x y x1 x2 x3 => S x y x1 x2 x3 (by omega)⟩
  unfold gI
  rw [wa]
  refine Ok.bind (P := fun r => Rg d a b l r ∧ ∀ i j, a ≤ i → i < j → j < b → f (G d r i) (G d r j) ≤ 0) (loop_ok (fun s : List α × Int => ∃ (q : List α) (i : Nat), s = (q, (i : Int)) ∧ a + 1 ≤ i ∧ (i ≤ b ∨ i = a + 1) ∧ Rg d a b l q ∧ ∀ x y, a ≤ x → x < y → y < i → f (G d q x) (G d q y) ≤ 0) (fun s => ((b : Int) - s.2).toNat) ?_ ⟨l, a + 1, rfl, by omega, .inr rfl, Rg.refl d a b l, fun x y x1 x2 x3 => by omega⟩) fun r hr => .some hr
  rintro _ ⟨q, i, rfl, i1, i2, R, S⟩
  have hql := R.len
  unfold gI1
  by_cases hi : i < b
  · have hi' : (i : Int) < b := by omega
    have w1 : IntKind.wrap .i64 ((i : Int) + 1) = ((i + 1 : Nat) : Int) := w_nat (by omega) (by omega)
    simp only [hi', decide_true, cond_true]
    refine (inner (by omega) hi (by omega) (by omega) S).bind fun r ⟨r1, r2⟩ => ?_
    rw [w1]
    exact .some ⟨⟨r, i + 1, rfl, by omega, .inl (by omega), R.trans r1, r2⟩, by simp only; omega⟩
  · have hi' : ¬ (i : Int) < b := by omega
    simp only [hi', decide_false, cond_false]
    exact .some ⟨R, fun x y x1 x2 x3 => S x y x1 x2 (by omega)⟩
/-! ### All of it -/
omit hc in
theorem fin_rg {A B a b : Nat} {q r : List α} (F : ∀ i j, A ≤ i → i < j → j < B → (i < a ∨ b ≤ j) → f (G d q i) (G d q j) ≤ 0) (hA : A ≤ a) (hB : b ≤ B) (R : Rg d a b q r) : ∀ i j, A ≤ i → i < j → j < B → (i < a ∨ b ≤ j) → f (G d r i) (G d r j) ≤ 0 := by
  intro i j i1 i2 i3 h
  rcases h with h | h
  · rw [R.out i (.inl h)]
    by_cases hj : a ≤ j ∧ j < b
    · obtain ⟨k, k1, k2, k3⟩ := R.seg j hj.1 hj.2
      rw [k3]
      exact F i k i1 (by omega) (by omega) (.inl h)
    · rw [R.out j (by omega)]
      exact F i j i1 i2 i3 (.inl h)
  · rw [R.out j (.inr h)]
    by_cases hi : a ≤ i ∧ i < b
    · obtain ⟨k, k1, k2, k3⟩ := R.seg i hi.1 hi.2
      rw [k3]
      exact F k j (by omega) (by omega) i3 (.inr h)
    · rw [R.out i (by omega)]
      exact F i j i1 i2 i3 (.inr h)
include anti tr in
theorem pQn_ok : ∀ (n : Nat) (l : List α) (A B : Nat) (lim : Int), B - A + 1 ≤ n → A ≤ B → B ≤ l.length → l.length ≤ 1000 → B ≤ A + 16 → ((B - A : Nat) : Int) ≤ lim + 11 → lim ≤ 1000 → -100 ≤ lim →
    (0 < A → ∀ k, A ≤ k → k < B → f (G d l (A - 1)) (G d l k) ≤ 0) → Ok (pQn c n l A B lim) (fun r => Rg d A B l r ∧ ∀ i j, A ≤ i → i < j → j < B → f (G d r i) (G d r j) ≤ 0)
  | 0, l, A, B, lim, h, _, _, _, _, _, _, _, _ => by omega
  | n + 1, l, A, B, lim, hn, hAB, hl, hl2, h15, hlim, hlim2, hlim3, pre => by
    unfold pQn
    refine Ok.bind (P := fun r => Rg d A B l r ∧ ∀ i j, A ≤ i → i < j → j < B → f (G d r i) (G d r j) ≤ 0) ?_ fun r hr => .some hr
    refine loop_ok (fun s : List α × Int × Int × Int × Bool × Bool => ∃ (q : List α) (a b : Nat) (lm : Int) (w p : Bool), s = (q, (a : Int), (b : Int), lm, w, p) ∧ A ≤ a ∧ a ≤ b ∧ b ≤ B ∧ Rg d A B l q ∧ (∀ i j, A ≤ i → i < j → j < B → (i < a ∨ b ≤ j) → f (G d q i) (G d q j) ≤ 0) ∧ ((b - a : Nat) : Int) ≤ lm + 11 ∧ lm ≤ 1000 ∧ -100 ≤ lm) (fun s => (s.2.2.1 - s.2.1).toNat) ?_
      ⟨l, A, B, lim, true, true, rfl, Nat.le_refl _, hAB, Nat.le_refl _, Rg.refl d A B l, fun i j i1 i2 i3 h => by omega, hlim, hlim2, hlim3⟩
    rintro _ ⟨q, a, b, lm, w, p, rfl, a1, ab, b1, R, F, L1, L2, L3⟩
    have hql := R.len
    have w0 : IntKind.wrap .i64 ((b : Int) - a) = ((b - a : Nat) : Int) := w_nat (by omega) (by omega)
    have prea : 0 < a → ∀ k, a ≤ k → k < b → f (G d q (a - 1)) (G d q k) ≤ 0 := by
      intro h0 k k1 k2
      by_cases hA : A < a
      · exact F (a - 1) k (by omega) (by omega) (by omega) (.inl (by omega))
      · have : a = A := by omega
        subst this
        rw [R.out (a - 1) (.inl (by omega))]
        obtain ⟨k', q1, q2, q3⟩ := R.seg k k1 (by omega)
        rw [q3]
        exact pre h0 k' q1 q2
    -- what is in order within as well is in order
    have whole : ∀ {r : List α}, Rg d a b q r → (∀ i j, a ≤ i → i < j → j < b → f (G d r i) (G d r j) ≤ 0) → Rg d A B l r ∧ ∀ i j, A ≤ i → i < j → j < B → f (G d r i) (G d r j) ≤ 0 := by
      intro r Rr S
      refine ⟨R.trans (Rr.mono a1 b1), fun i j i1 i2 i3 => ?_⟩
      by_cases h : i < a ∨ b ≤ j
      · exact fin_rg F a1 b1 Rr i j i1 i2 i3 h
      · exact S i j (by omega) i2 (by omega)
    unfold pQx1
    dsimp only
    rw [w0]
    by_cases h12 : b - a ≤ 12
    · have h12' : ((b - a : Nat) : Int) ≤ 12 := by omega
      simp only [h12', decide_true, cond_true]
      refine (gIr_ok hc anti tr (d := d) (show b ≤ q.length by omega) (by omega) ab).bind fun r ⟨r1, r2⟩ => ?_
      exact .gd (by simp [r1.len]) (.some (whole r1 r2))
    · have h12' : ¬ ((b - a : Nat) : Int) ≤ 12 := by omega
      have hl0 : ¬ lm = 0 := by omega
      have hr13 : a + 13 ≤ b ∧ b ≤ a + 24 := by omega
      simp only [h12', hl0, decide_false, cond_false]
      have hx2 : Ok (pQx2 (pQn c n) q a b lm w) (fun x => Rg d a b q x.1 ∧ lm - 1 ≤ x.2 ∧ x.2 ≤ lm) := by
        unfold pQx2
        refine .cond (fun _ => ?_) (fun _ => .some ⟨Rg.refl d a b q, by simp only; omega, by simp only; omega⟩)
        refine (pB_ok (d := d) (show b ≤ q.length by omega) (by omega) hr13).bind fun r hr => ?_
        rw [wrap64 (by omega) (by omega)]
        exact .gd (by simp [hr.len]) (.some ⟨hr, by simp only; omega, by simp only; omega⟩)
      refine hx2.bind fun ⟨q1, lm1⟩ ⟨R1, m1, m2⟩ => ?_
      simp only at R1 m1 m2
      have hq1 := R1.len
      refine (pC_ok hc (l := q1) (a := a) (b := b) (by omega) (by omega) hr13).bind fun ⟨pi, h⟩ ⟨p1, p2⟩ => ?_
      simp only at p1 p2
      obtain ⟨pn, rfl⟩ : ∃ pn : Nat, pi = (pn : Int) := ⟨pi.toNat, by omega⟩
      have hx3 : pQx3 (pQn c n) a b q1 pn h = some (q1, (pn : Int), h) := by
        unfold pQx3
        simp [p2]
      simp only [hx3, Option.bind_some]
      have F1 := fin_rg F a1 b1 R1
      have pre1 : 0 < a → ∀ k, a ≤ k → k < b → f (G d q1 (a - 1)) (G d q1 k) ≤ 0 := by
        intro h0 k k1 k2
        rw [R1.out (a - 1) (.inl (by omega))]
        obtain ⟨k', e1, e2, e3⟩ := R1.seg k k1 k2
        rw [e3]
        exact prea h0 k' e1 e2
      have hx4 : Ok (pQx4 c (pQn c n) a b w p q1 h) (fun x => match x with | .inl r => r = q1 | .inr r => r = q1 ∧ ∀ i, a ≤ i → i + 1 < b → f (G d q1 i) (G d q1 (i + 1)) ≤ 0) := by
        unfold pQx4
        refine Ok.bind (P := fun _ => True) ?_ fun v _ => .cond (fun _ => ?_) (fun _ => .some rfl)
        · unfold pQx5
          exact .cond (fun _ => .cond (fun _ => .some trivial) fun _ => .some trivial) fun _ => .some trivial
        · obtain ⟨g, g1, g2⟩ := pI_ok hc anti (d := d) (l := q1) (a := a) (b := b) (by omega) (by omega) (by omega)
          rw [g1]
          simp only [Option.bind_some]
          refine .gd (by simp) ?_
          cases g with
          | true => exact .some ⟨rfl, g2 rfl⟩
          | false => exact .some rfl
      refine hx4.bind fun x hx => ?_
      cases x with
      | inr r =>
        obtain ⟨rfl, hs⟩ := hx
        refine .some (whole R1 fun i j i1 i2 i3 => ?_)
        have key : ∀ k, i + 1 + k < b → f (G d r i) (G d r (i + 1 + k)) ≤ 0 := by
          intro k
          induction k with
          | zero => intro hk; exact hs i i1 hk
          | succ k ih => intro hk; exact tr _ _ _ (ih (by omega)) (hs (i + 1 + k) (by omega) (by omega))
        have := key (j - i - 1) (by omega)
        rwa [show i + 1 + (j - i - 1) = j by omega] at this
      | inl r =>
        have hx : r = q1 := hx
        subst hx
        have hx6 : pQx6 c (pQn c n) a pn r = some (decide (0 < a) && !decide (f (G d r (a - 1)) (G d r pn) < 0)) := by
          unfold pQx6
          by_cases h0 : 0 < a
          · have h0' : (0 : Int) < a := by omega
            have wm : IntKind.wrap .i64 ((a : Int) - 1) = ((a - 1 : Nat) : Int) := w_nat (by omega) (by omega)
            simp only [h0', h0, decide_true, cond_true, wm, at_G (d := d) (show a - 1 < r.length by omega), at_G (d := d) (show pn < r.length by omega), Option.bind_some, hc, Bool.true_and]
          · have h0' : ¬ (0 : Int) < a := by omega
            simp [h0', h0]
        simp only [hx6, Option.bind_some]
        refine .cond (fun hT => ?_) (fun _ => ?_)
        · simp only [Bool.and_eq_true, decide_eq_true_eq, Bool.not_eq_true', decide_eq_false_iff_not] at hT
          obtain ⟨h0, hpl⟩ := hT
          have pre0 := pre1 h0
          refine (pE_ok hc anti (d := d) (l := r) (a := a) (b := b) (p := pn) (by omega) (by omega) (by omega)).bind fun ⟨q2, mi⟩ ⟨R2, m, hm, n1, n2, n3⟩ => ?_
          simp only at R2 hm n1 n2 n3
          subst hm
          have hq2 := R2.len
          refine .gd (by simp [hq2]) (.some ⟨⟨q2, m, b, lm1, w, p, rfl, by omega, n2, b1, R.trans ((R1.trans R2).mono a1 b1), fun i j i1 i2 i3 h => ?_, by omega, by omega, by omega⟩, by simp only; omega⟩)
          by_cases h' : i < a ∨ b ≤ j
          · exact fin_rg F1 a1 b1 R2 i j i1 i2 i3 h'
          · have e1 := n3 i (by omega) (by omega)
            have e2 : f (G d r pn) (G d r (a - 1)) ≤ 0 := by have := anti (G d r (a - 1)) (G d r pn); omega
            have e3 : f (G d r (a - 1)) (G d q2 j) ≤ 0 := by
              obtain ⟨k', u1, u2, u3⟩ := R2.seg j (by omega) (by omega)
              rw [u3]
              exact pre0 k' u1 u2
            exact tr _ _ _ (tr _ _ _ e1 e2) e3
        · refine (pP_ok hc anti (d := d) (l := r) (a := a) (b := b) (p := pn) (by omega) (by omega) (by omega)).bind fun ⟨q2, mi, fl⟩ ⟨R2, m, hm, P⟩ => ?_
          simp only at R2 hm P
          subst hm
          have hq2 := R2.len
          have ma := P.ma
          have mb := P.mb
          have F2 := fin_rg F1 a1 b1 R2
          have wm1 : IntKind.wrap .i64 ((m : Int) + 1) = ((m + 1 : Nat) : Int) := w_nat (by omega) (by omega)
          refine .gd (by simp [hq2]) ?_
          rw [wm1]
          refine .cond (fun _ => ?_) (fun _ => ?_)
          · refine (pQn_ok n q2 a m lm1 (by omega) ma (by omega) (by omega) (by omega) (by omega) (by omega) (by omega) (fun h0 k k1 k2 => by
              rw [R2.out (a - 1) (.inl (by omega))]
              obtain ⟨k', u1, u2, u3⟩ := R2.seg k k1 (by omega)
              rw [u3]
              exact pre1 h0 k' u1 u2)).bind fun q3 ⟨R3, S3⟩ => ?_
            have hq3 := R3.len
            have R3b := R3.mono (Nat.le_refl a) (show m ≤ b by omega)
            refine .gd (by simp [hq3]) (.some ⟨⟨q3, m + 1, b, lm1, _, fl, rfl, by omega, by omega, b1, R.trans (((R1.trans R2).trans R3b).mono a1 b1), fun i j i1 i2 i3 h => ?_, by omega, by omega, by omega⟩, by simp only; omega⟩)
            by_cases h' : i < a ∨ b ≤ j
            · exact fin_rg F2 a1 b1 R3b i j i1 i2 i3 h'
            · have hmm : G d q3 m = G d q2 m := R3.out m (.inr (Nat.le_refl _))
              by_cases him : i = m
              · subst him
                rw [hmm, R3.out j (.inr (by omega))]
                exact P.hi j i2 (by omega)
              · by_cases hjm : j < m
                · exact S3 i j (by omega) i2 hjm
                · obtain ⟨i', u1, u2, u3⟩ := R3.seg i (by omega) (by omega)
                  have e1 := P.lo i' u1 u2
                  rw [u3]
                  by_cases hje : j = m
                  · subst hje
                    rw [hmm]; exact e1
                  · rw [R3.out j (.inr (by omega))]
                    exact tr _ _ _ e1 (P.hi j (by omega) (by omega))
          · refine (pQn_ok n q2 (m + 1) b lm1 (by omega) (by omega) (by omega) (by omega) (by omega) (by omega) (by omega) (by omega) (fun h0 k k1 k2 => by
              rw [show m + 1 - 1 = m by omega]
              exact P.hi k (by omega) k2)).bind fun q3 ⟨R3, S3⟩ => ?_
            have hq3 := R3.len
            have R3b := R3.mono (show a ≤ m + 1 by omega) (Nat.le_refl b)
            refine .gd (by simp [hq3]) (.some ⟨⟨q3, a, m, lm1, _, fl, rfl, a1, ma, by omega, R.trans (((R1.trans R2).trans R3b).mono a1 b1), fun i j i1 i2 i3 h => ?_, by omega, by omega, by omega⟩, by simp only; omega⟩)
            by_cases h' : i < a ∨ b ≤ j
            · exact fin_rg F2 a1 b1 R3b i j i1 i2 i3 h'
            · have hmm : G d q3 m = G d q2 m := R3.out m (.inl (by omega))
              by_cases hjm : j = m
              · subst hjm
                rw [hmm, R3.out i (.inl (by omega))]
                exact P.lo i (by omega) i2
              · by_cases him : m < i
                · exact S3 i j (by omega) i2 (by omega)
                · obtain ⟨j', u1, u2, u3⟩ := R3.seg j (by omega) (by omega)
                  have e1 := P.hi j' (by omega) u2
                  rw [u3]
                  by_cases hie : i = m
                  · subst hie
                    rw [hmm]; exact e1
                  · rw [R3.out i (.inl (by omega))]
                    exact tr _ _ _ (P.lo i (by omega) (by omega)) e1
/-- the code's sorting of up to fifteen -/
noncomputable def gSQ (c : α → α → Option Int) (qx : List α) : Option (List α) :=
  (bits_Len (IntKind.wrap .u64 ((qx.length : Int)))).bind fun vr1 =>
  (pQ c qx 0 (qx.length : Int) vr1).bind fun vl2 =>
  gd (vl2.length == qx.length) <|
  some vl2
omit hc in
theorem bitLen15 (n : Nat) (h : n ≤ 16) : ∃ b, bits_Len (IntKind.wrap .u64 (n : Int)) = some b ∧ (n : Int) ≤ b + 11 ∧ b ≤ 1000 ∧ -100 ≤ b := by
  have key : ((List.range 17).all fun k => match bits_Len (IntKind.wrap .u64 (k : Int)) with | some b => decide ((k : Int) ≤ b + 11) && (decide (b ≤ 1000) && decide (-100 ≤ b)) | none => false) = true := by kernel_rfl
  have := List.all_eq_true.1 key n (List.mem_range.2 (by omega))
  cases hb : bits_Len (IntKind.wrap .u64 (n : Int)) with
  | none => rw [hb] at this; cases this
  | some b =>
    rw [hb] at this
    simp only [Bool.and_eq_true, decide_eq_true_eq] at this
    exact ⟨b, rfl, this.1, this.2.1, this.2.2⟩
include anti tr in
theorem gSQ_ok {l : List α} (hl : l.length ≤ 16) : ∃ r, gSQ c l = some r ∧ r.Perm l ∧ r.Pairwise fun x y => f x y ≤ 0 := by
  cases hl0 : l with
  | nil =>
    have : gSQ c ([] : List α) = some [] := by
      obtain ⟨b, b1, _⟩ := bitLen15 0 (by omega)
      have h0 : pQ c ([] : List α) 0 0 b = some [] := by
        unfold pQ
        refine fixO_20 ?_
        unfold pQn
        rw [loop_out (r := ([] : List α)) (by
          unfold pQx1
          have w : IntKind.wrap .i64 ((0 : Int) - 0) = 0 := by decide
          have w1 : IntKind.wrap .i64 ((0 : Int) + 1) = 1 := by decide
          have hg : gI c ([] : List α) 0 0 = some [] := by
            unfold gI
            rw [w1, loop_out (r := ([] : List α)) (by unfold gI1; simp)]
            rfl
          dsimp only
          rw [w]
          simp only [show ((0 : Int) ≤ 12) by decide, decide_true, cond_true, hg, Option.bind_some]
          rfl)]
        rfl
      unfold gSQ
      have b1' : bits_Len (IntKind.wrap .u64 ((([] : List α).length : Nat) : Int)) = some b := b1
      rw [b1']
      simp only [Option.bind_some, List.length_nil]
      have h0' : pQ c ([] : List α) 0 ((0 : Nat) : Int) b = some [] := h0
      rw [h0']
      rfl
    exact ⟨[], this, List.Perm.refl _, List.Pairwise.nil⟩
  | cons x0 l0 =>
    rw [← hl0]
    obtain ⟨b, b1, b2, b3, b4⟩ := bitLen15 l.length hl
    obtain ⟨r, r1, r2, r3⟩ := pQn_ok hc anti tr (d := x0) 20 l 0 l.length b (by omega) (by omega) (Nat.le_refl _) (by omega) (by omega) (by omega) b3 b4 (fun h => by omega)
    refine ⟨r, ?_, r2.perm, ?_⟩
    · have r1' : pQn c 20 l 0 (l.length : Int) b = some r := r1
      unfold gSQ pQ
      rw [b1]
      simp only [Option.bind_some]
      rw [fixO_20 r1']
      simp only [Option.bind_some, gd, r2.len, beq_self_eq_true, cond_true]
    · rw [List.pairwise_iff_getElem]
      intro i j hi hj hij
      have := r3 i j (by omega) hij (by rw [← r2.len]; exact hj)
      have e1 : G x0 r i = r[i] := by unfold G; rw [List.getD_eq_getElem?_getD, List.getElem?_eq_getElem hi]; rfl
      have e2 : G x0 r j = r[j] := by unfold G; rw [List.getD_eq_getElem?_getD, List.getElem?_eq_getElem hj]; rfl
      rw [e1, e2] at this
      exact this
end
end Go.Eng

/-
Insertion sorts; what is left of equal ones rises.
-/
namespace Go.Eng
open Go
set_option linter.unusedVariables false
set_option linter.unusedSimpArgs false
section
variable {α : Type}
/-- the first n are in order -/
def Ord (f : α → α → Int) (l : List α) (n : Nat) : Prop := ∀ p q (hp : p < q) (hq : q < n) (hn : n ≤ l.length), f (l[p]'(by omega)) (l[q]'(by omega)) ≤ 0

theorem gI2_ord {P : α → Prop} {f : α → α → Int} {c : α → α → Option Int} (hc : ∀ x y, P x → P y → c x y = some (f x y)) (anti : ∀ x y, f y x = - f x y) (tr : ∀ x y z, f x y ≤ 0 → f y z ≤ 0 → f x z ≤ 0)
    {n : Nat} (hn : n ≤ 100000) {l : List α} (hl : l.length = n) (hP : All P l) {i : Nat} (hi : i < n) (ho : Ord f l i) :
    Ok (loopO (gI2 c 0) (l, (i : Int))) (fun r => r.length = n ∧ All P r ∧ Ord f r (i + 1)) := by
  refine loop_ok (fun s : List α × Int => s.1.length = n ∧ All P s.1 ∧ ∃ j : Nat, s.2 = (j : Int) ∧ j ≤ i ∧ ∀ p q (hp : p < q) (hq : q ≤ i) (hqj : q ≠ j) (hs : i < s.1.length), f (s.1[p]'(by omega)) (s.1[q]'(by omega)) ≤ 0) (fun s => s.2.toNat) ?_
    ⟨hl, hP, i, rfl, Nat.le_refl _, fun p q hp hq hqj hs => ho p q hp (by omega) (by simp only at hs; omega)⟩
  rintro ⟨m, q⟩ ⟨m1, m2, j, rfl, j1, j2⟩
  simp only at m1 m2 j2
  unfold gI2 gI3
  by_cases hj : (0 : Int) < j
  · have w1 : IntKind.wrap .i64 ((j : Int) - 1) = ((j - 1 : Nat) : Int) := by rw [wrap64 (by omega) (by omega)]; omega
    have hjm : j < m.length := by omega
    have hjm1 : j - 1 < m.length := by omega
    have hy := m2 _ (List.getElem_mem hjm)
    have hx := m2 _ (List.getElem_mem hjm1)
    simp only [hj, decide_true, cond_true, w1, at_nat hjm, at_nat hjm1, Option.bind_some, hc _ _ hy hx]
    refine .cond (fun hlt => ?_) (fun hge => ?_)
    · have hlt := of_decide_eq_true hlt
      have g3 : at? (m.set (j : Int).toNat m[j - 1]) ((j - 1 : Nat) : Int) = some m[j - 1] := by
        rw [at_nat (by simp; omega)]
        simp only [Int.toNat_natCast, List.getElem_set]
        rw [if_neg (by omega)]
      rw [g3]
      simp only [Option.bind_some, Int.toNat_natCast]
      refine .some ⟨⟨by simp [m1], (m2.set hx).set hy, j - 1, rfl, by omega, ?_⟩, by simp only; omega⟩
      intro p q hp hq hqj hs
      simp only [List.getElem_set]
      have hin : i < m.length := by omega
      by_cases q1 : q = j
      · subst q1
        by_cases p1 : p = q - 1
        · subst p1
          have e1 : ¬ (q - 1 = q) := by omega
          simp only [e1, if_true, if_false]
          omega
        · have e1 : ¬ (q - 1 = p) := by omega
          have e2 : ¬ (q = p) := by omega
          have e3 : ¬ (q - 1 = q) := by omega
          simp only [e1, e2, e3, if_true, if_false]
          exact j2 p (q - 1) (by omega) (by omega) (by omega) hin
      · have e4 : ¬ (j = q) := by omega
        have e5 : ¬ (j - 1 = q) := by omega
        simp only [e4, e5, if_false]
        by_cases p1 : p = j - 1
        · subst p1
          simp only [if_true]
          exact j2 j q (by omega) hq q1 hin
        · by_cases p2 : p = j
          · subst p2
            have e6 : ¬ (p - 1 = p) := by omega
            simp only [e6, if_true, if_false]
            exact j2 (p - 1) q (by omega) hq q1 hin
          · have e7 : ¬ (j - 1 = p) := by omega
            have e8 : ¬ (j = p) := by omega
            simp only [e7, e8, if_false]
            exact j2 p q hp hq q1 hin
    · have hge := of_decide_eq_false hge
      refine .some ⟨m1, m2, fun p q hp hq hs => ?_⟩
      have hin : i < m.length := by omega
      by_cases q1 : q = j
      · subst q1
        have h0 : f m[q - 1] m[q] ≤ 0 := by have := anti m[q] m[q - 1]; omega
        by_cases p1 : p = q - 1
        · subst p1; exact h0
        · exact tr _ _ _ (j2 p (q - 1) (by omega) (by omega) (by omega) hin) h0
      · exact j2 p q hp (by omega) q1 hin
  · have hj' : ¬ (0 : Int) < j := hj
    have j0 : j = 0 := by omega
    subst j0
    simp only [hj', decide_false, cond_false, Option.bind_some]
    exact .some ⟨m1, m2, fun p q hp hq hs => j2 p q hp (by omega) (by omega) (by omega)⟩
theorem gI_ord {P : α → Prop} {f : α → α → Int} {c : α → α → Option Int} (hc : ∀ x y, P x → P y → c x y = some (f x y)) (anti : ∀ x y, f y x = - f x y) (tr : ∀ x y z, f x y ≤ 0 → f y z ≤ 0 → f x z ≤ 0)
    {l : List α} (hl : l.length ≤ 100000) (hP : All P l) : Ok (gI c l 0 l.length) (fun r => r.length = l.length ∧ All P r ∧ Ord f r l.length) := by
  unfold gI
  have w : IntKind.wrap .i64 ((0 : Int) + 1) = 1 := by decide
  rw [w]
  refine Ok.bind (P := fun r : List α => r.length = l.length ∧ All P r ∧ Ord f r l.length) (loop_ok (fun s : List α × Int => s.1.length = l.length ∧ All P s.1 ∧ ∃ i : Nat, s.2 = (i : Int) ∧ 1 ≤ i ∧ Ord f s.1 (min i l.length)) (fun s => ((l.length : Int) - s.2).toNat) ?_
    ⟨rfl, hP, 1, rfl, by omega, fun p q hp hq hn => by omega⟩) fun r hr => .some hr
  rintro ⟨m, q⟩ ⟨m1, m2, i, rfl, i1, i2⟩
  simp only at m1 m2 i2
  unfold gI1
  by_cases hi : i < l.length
  · have hi' : (i : Int) < l.length := by omega
    have w1 : IntKind.wrap .i64 ((i : Int) + 1) = ((i + 1 : Nat) : Int) := by rw [wrap64 (by omega) (by omega)]; omega
    simp only [hi', decide_true, cond_true]
    rw [Nat.min_eq_left (by omega)] at i2
    refine (gI2_ord hc anti tr (n := l.length) hl m1 m2 hi i2).bind fun r hr => ?_
    rw [w1]
    refine .some ⟨⟨hr.1, hr.2.1, i + 1, rfl, by omega, ?_⟩, by simp only; omega⟩
    rw [Nat.min_eq_left (by omega)]
    exact hr.2.2
  · have hi' : ¬ (i : Int) < l.length := by omega
    simp only [hi', decide_false, cond_false]
    rw [Nat.min_eq_right (by omega)] at i2
    exact .some ⟨m1, m2, i2⟩
end
end Go.Eng

/-
What is left of a sorted row, each key once, with what is found again.
-/
namespace Go.Eng
open Go
set_option linter.unusedVariables false
set_option linter.unusedSimpArgs false
section
variable {α : Type}
theorem gCom_key2 {P : α → Prop} {t : α → α → Option Bool} {kf : α → Int} (ht : ∀ x y, P x → P y → ∃ b, t x y = some b ∧ (b = true ↔ kf x = kf y)) {z : α} {l : List α} (hl : l.length ≤ 100000) (hp : All P l)
    (hs : ∀ p q (hpq : p < q) (hq : q < l.length), kf (l[p]'(by omega)) ≤ kf l[q]) : Ok (gCom t z l) (fun r => (r.length ≤ l.length ∧ All P r ∧ r.Pairwise (fun x y => kf x < kf y)) ∧ ∀ x ∈ l, ∃ y ∈ r, kf y = kf x) := by
  unfold gCom
  have small : ∀ k, (k ≤ l.length) → (∀ q (hq : q + 1 < k) (hk : k ≤ l.length), kf (l[q + 1]'(by omega)) ≠ kf (l[q]'(by omega))) → (l.take k).Pairwise (fun x y => kf x < kf y) := by
    intro k hkl hne
    rw [List.pairwise_iff_getElem]
    intro i j hi hj hij
    simp only [List.getElem_take]
    have hjl : j < l.length := by simp at hj; omega
    have hjk : j < k := by simp at hj; omega
    have h1 : kf (l[i]'(by omega)) ≤ kf (l[j - 1]'(by omega)) := by
      by_cases e : i = j - 1
      · subst e; exact Int.le_refl _
      · exact hs i (j - 1) (by omega) (by omega)
    have h2 := hs (j - 1) j (by omega) hjl
    have h3 : kf (l[j - 1]'(by omega)) ≠ kf l[j] := by
      intro e
      have := hne (j - 1) (by omega) hkl
      apply this
      have e3 : j - 1 + 1 = j := by omega
      simp only [e3]
      exact e.symm
    omega
  refine .cond (fun hc => .some ⟨⟨Nat.le_refl _, hp, ?_⟩, fun x hx => ⟨x, hx, rfl⟩⟩) (fun hc => ?_)
  · have hc := of_decide_eq_true hc
    match l, hc with
    | [], _ => simp
    | [x], _ => simp
    | x :: y :: m, hc => simp at hc; omega
  have hl2 : (2 : Int) ≤ l.length := by simpa using hc
  refine Ok.bind (P := fun x => match x with | .inl _ => l.Pairwise (fun x y => kf x < kf y) | .inr r => (r.length ≤ l.length ∧ All P r ∧ r.Pairwise (fun x y => kf x < kf y)) ∧ ∀ x ∈ l, ∃ y ∈ r, kf y = kf x) ?_ (fun x hx => ?_)
  · refine loop_ok (fun k : Int => ∃ n : Nat, k = (n : Int) ∧ 1 ≤ n ∧ n ≤ l.length ∧ ∀ q (hq : q + 1 < n) (hk : n ≤ l.length), kf (l[q + 1]'(by omega)) ≠ kf (l[q]'(by omega))) (fun k => ((l.length : Int) - k).toNat) ?_ ⟨1, rfl, by omega, by omega, fun q hq => by omega⟩
    rintro k ⟨n, rfl, n1, n2, n3⟩
    unfold gC1
    by_cases hk' : n < l.length
    · have hki : (n : Int) < l.length := by omega
      have w1 : IntKind.wrap .i64 ((n : Int) - 1) = ((n - 1 : Nat) : Int) := by rw [wrap64 (by omega) (by omega)]; omega
      have w2 : IntKind.wrap .i64 ((n : Int) + 1) = ((n + 1 : Nat) : Int) := by rw [wrap64 (by omega) (by omega)]; omega
      obtain ⟨b, hb, hbe⟩ := ht l[n] (l[n - 1]'(by omega)) (hp _ (List.getElem_mem hk')) (hp _ (List.getElem_mem (show n - 1 < l.length by omega)))
      simp only [hki, decide_true, cond_true, w1, at_nat hk', at_nat (show n - 1 < l.length by omega), hb, Option.bind_some]
      cases b with
      | false =>
        simp only [cond_false, w2]
        refine .some ⟨⟨n + 1, rfl, by omega, by omega, fun q hq hk => ?_⟩, by omega⟩
        by_cases e : q + 1 = n
        · subst e
          intro he
          have : (false : Bool) = true := hbe.2 he
          cases this
        · exact n3 q (by omega) n2
      | true =>
        have heq : kf l[n] = kf (l[n - 1]'(by omega)) := hbe.1 rfl
        simp only [cond_true]
        refine .gd (by simp; omega) ?_
        have hkn : (((l.length : Int).toNat - (n : Int).toNat : Nat) : Int) = l.length - n := by omega
        refine Ok.bind (P := fun q : List α × Int => q.1.length = l.length ∧ ∃ i : Nat, q.2 = (i : Int) ∧ i ≤ l.length ∧ All P q.1 ∧ (q.1.take i).Pairwise (fun x y => kf x < kf y) ∧ ∀ x ∈ l, ∃ y ∈ q.1.take i, kf y = kf x) ?_ (fun ⟨l7, k9⟩ ⟨q1, i, q2, q3, q4, q5, q6⟩ => ?_)
        · refine loop_ok (fun q : List α × Int × Int => q.1.length = l.length ∧ All P q.1 ∧ ∃ i j : Nat, q.2.1 = (i : Int) ∧ q.2.2 = (j : Int) ∧ 1 ≤ j ∧ n + j ≤ l.length ∧ 1 ≤ i ∧ i ≤ n + j - 1 ∧ q.1.drop (n + j - 1) = l.drop (n + j - 1) ∧
            (q.1.take i).Pairwise (fun x y => kf x < kf y) ∧ (∀ (h1 : i - 1 < q.1.length) (h2 : n + j - 1 < l.length), kf q.1[i - 1] = kf l[n + j - 1]) ∧ ∀ x ∈ l.take (n + j), ∃ y ∈ q.1.take i, kf y = kf x) (fun q => ((l.length : Int) - q.2.2).toNat) ?_
            ⟨rfl, hp, n, 1, rfl, rfl, by omega, by omega, by omega, by omega, rfl, small n n2 n3, fun h1 h2 => by simp only [Nat.add_sub_cancel]; exact heq.symm, fun x hx => by
              rw [List.take_succ_eq_append_getElem hk'] at hx
              rcases List.mem_append.1 hx with hx | hx
              · exact ⟨x, hx, rfl⟩
              · rw [List.mem_singleton] at hx
                subst hx
                exact ⟨l[n - 1]'(by omega), List.mem_iff_getElem.2 ⟨n - 1, by simp; omega, by simp⟩, heq.symm⟩⟩
          rintro ⟨m, i', j'⟩ ⟨m1, m2, i, j, rfl, rfl, j1, j2, i1, i2, d1, d2, d3, d4⟩
          simp only at m1 m2 d1 d2 d3 d4
          unfold gC2
          rw [hkn]
          refine .cond (fun hj => ?_) (fun hj => .some ⟨m1, i, rfl, by omega, m2, d2, by
            have hj : ¬ (j : Int) < l.length - n := by simpa using hj
            rw [List.take_of_length_le (show l.length ≤ n + j by omega)] at d4
            exact d4⟩)
          have hj : (j : Int) < l.length - n := by simpa using hj
          have w3 : IntKind.wrap .i64 ((j : Int) - 1) = ((j - 1 : Nat) : Int) := by rw [wrap64 (by omega) (by omega)]; omega
          have w4 : IntKind.wrap .i64 ((i : Int) + 1) = ((i + 1 : Nat) : Int) := by rw [wrap64 (by omega) (by omega)]; omega
          have w5 : IntKind.wrap .i64 ((j : Int) + 1) = ((j + 1 : Nat) : Int) := by rw [wrap64 (by omega) (by omega)]; omega
          have a1 : m[n + j]'(by omega) = l[n + j]'(by omega) := by
            have h := congrArg (fun x => x[1]?) d1
            simp only [List.getElem?_drop] at h
            rw [show n + j - 1 + 1 = n + j by omega, List.getElem?_eq_getElem (by omega), List.getElem?_eq_getElem (by omega)] at h
            exact Option.some.inj h
          have a2 : m[n + j - 1]'(by omega) = l[n + j - 1]'(by omega) := by
            have h := congrArg (fun x => x[0]?) d1
            simp only [List.getElem?_drop] at h
            rw [show n + j - 1 + 0 = n + j - 1 by omega, List.getElem?_eq_getElem (by omega), List.getElem?_eq_getElem (by omega)] at h
            exact Option.some.inj h
          have hx := hp _ (List.getElem_mem (show n + j < l.length by omega))
          have hy := hp _ (List.getElem_mem (show n + j - 1 < l.length by omega))
          obtain ⟨b, hb, hbe⟩ := ht (l[n + j]'(by omega)) (l[n + j - 1]'(by omega)) hx hy
          refine Ok.bind (P := fun q : List α × Int => q.1.length = l.length ∧ All P q.1 ∧ ∃ i : Nat, q.2 = (i : Int) ∧ 1 ≤ i ∧ i ≤ n + j ∧ q.1.drop (n + j) = l.drop (n + j) ∧ (q.1.take i).Pairwise (fun x y => kf x < kf y) ∧ (∀ (h1 : i - 1 < q.1.length) (h2 : n + j < l.length), kf q.1[i - 1] = kf l[n + j]) ∧ ∀ x ∈ l.take (n + j + 1), ∃ y ∈ q.1.take i, kf y = kf x) ?_ (fun ⟨m', i''⟩ ⟨g1, g2, i3, g3, g4, g5, g6, g7, g8, g9⟩ => ?_)
          · unfold gC3
            rw [w3]
            refine .gd (by simp; omega) ?_
            have e1 : (n : Int) + (j : Int) = ((n + j : Nat) : Int) := by omega
            have e2 : (n : Int) + ((j - 1 : Nat) : Int) = ((n + j - 1 : Nat) : Int) := by omega
            rw [e1, at_nat (show n + j < m.length by omega)]
            simp only [Option.bind_some]
            refine .gd (by simp; omega) ?_
            rw [e2, at_nat (show n + j - 1 < m.length by omega), at_nat (show i < m.length by omega)]
            simp only [Option.bind_some, a1, a2, hb, w4, Int.toNat_natCast]
            have hdrop : m.drop (n + j) = l.drop (n + j) := by
              have h := congrArg (List.drop 1) d1
              rw [List.drop_drop, List.drop_drop, show n + j - 1 + 1 = n + j by omega] at h
              exact h
            cases b with
            | true =>
              have he : kf (l[n + j]'(by omega)) = kf (l[n + j - 1]'(by omega)) := hbe.1 rfl
              refine .some ⟨m1, m2, i, rfl, i1, by omega, hdrop, d2, fun h1 h2 => ?_, fun x hx => ?_⟩
              · rw [d3 h1 (by omega)]; exact he.symm
              · rw [List.take_succ_eq_append_getElem (show n + j < l.length by omega)] at hx
                rcases List.mem_append.1 hx with hx | hx
                · exact d4 x hx
                · rw [List.mem_singleton] at hx
                  subst hx
                  obtain ⟨y, y1, y2⟩ := d4 (l[n + j - 1]'(by omega)) (List.mem_iff_getElem.2 ⟨n + j - 1, by simp; omega, by simp⟩)
                  exact ⟨y, y1, y2.trans he.symm⟩
            | false =>
              have hne : kf (l[n + j]'(by omega)) ≠ kf (l[n + j - 1]'(by omega)) := fun e => by have := hbe.2 e; cases this
              refine .some ⟨by simp [m1], m2.set hx, i + 1, rfl, by omega, by omega, ?_, ?_, fun h1 h2 => ?_, fun x hx' => ?_⟩
              · simp only
                rw [List.drop_set_of_lt (by omega)]; exact hdrop
              · simp only
                rw [List.take_succ_eq_append_getElem (by simp; omega), List.take_set_of_le (by omega)]
                simp only [List.getElem_set_self]
                rw [List.pairwise_append]
                refine ⟨d2, by simp, fun x hx' y hy' => ?_⟩
                rw [List.mem_singleton] at hy'
                subst hy'
                have hlast := d3 (by omega) (by omega)
                have hle : kf x ≤ kf (l[n + j - 1]'(by omega)) := by
                  obtain ⟨p, hp', rfl⟩ := List.mem_iff_getElem.1 hx'
                  simp only [List.getElem_take]
                  rw [← hlast]
                  have hpi : p < i := by simp at hp'; omega
                  by_cases e : p = i - 1
                  · subst e; exact Int.le_refl _
                  · have := (List.pairwise_iff_getElem.1 d2) p (i - 1) hp' (by simp; omega) (by omega)
                    simp only [List.getElem_take] at this
                    omega
                have hlt : kf (l[n + j - 1]'(by omega)) < kf (l[n + j]'(by omega)) := by
                  have h1 := hs (n + j - 1) (n + j) (by omega) (by omega)
                  by_cases e : kf (l[n + j - 1]'(by omega)) = kf (l[n + j]'(by omega))
                  · exact absurd e.symm hne
                  · omega
                omega
              · simp
              · simp only
                rw [List.take_succ_eq_append_getElem (show i < (m.set i (l[n + j]'(by omega))).length by simp; omega), List.take_set_of_le (by omega)]
                simp only [List.getElem_set_self]
                rw [List.take_succ_eq_append_getElem (show n + j < l.length by omega)] at hx'
                rcases List.mem_append.1 hx' with hx' | hx'
                · obtain ⟨y, y1, y2⟩ := d4 x hx'
                  exact ⟨y, List.mem_append_left _ y1, y2⟩
                · rw [List.mem_singleton] at hx'
                  subst hx'
                  exact ⟨_, List.mem_append_right _ (List.mem_singleton.2 rfl), rfl⟩
          · simp only at g1 g2 g3 g6 g7 g8 g9
            subst g3
            rw [w5]
            refine .some ⟨⟨g1, g2, i3, j + 1, rfl, rfl, by omega, by omega, g4, by omega, ?_, g7, fun h1 h2 => ?_, g9⟩, by simp only; omega⟩
            · simp only
              rw [show n + (j + 1) - 1 = n + j by omega]; exact g6
            · simp only
              have := g8 h1 (by omega)
              rw [this]
              congr 1
        · simp only at q1 q2 q4 q5
          subst q2
          refine .gd (by simp; omega) (.gd ?_ ?_)
          · simp only [Bool.and_eq_true, decide_eq_true_eq]
            refine ⟨by omega, ?_⟩
            simp only [List.length_append, List.length_take, List.length_replicate, List.length_drop, Int.toNat_natCast]
            omega
          · rw [take_part (by simp; omega)]
            refine .some ⟨⟨?_, fun x hx => q4 x (List.mem_of_mem_take hx), by simpa using q5⟩, by simpa using q6⟩
            simp only [List.length_take]; omega
    · have hki : ¬ (n : Int) < l.length := by omega
      simp only [hki, decide_false, cond_false]
      refine .some ?_
      have := small l.length (Nat.le_refl _) (fun q hq hk => n3 q (by omega) n2)
      rwa [List.take_length] at this
  · cases x with
    | inl _ => exact .some ⟨⟨Nat.le_refl _, hp, hx⟩, fun x hx => ⟨x, hx, rfl⟩⟩
    | inr r => exact .some hx
end
end Go.Eng

/-
Samples: sorting, compacting and merging of up to fourteen; those of a device and a metric in a window.
-/
namespace Go.Eng
open Go
set_option linter.unusedVariables false
set_option linter.unusedSimpArgs false
theorem Ok.and1 {α : Type} {x : Option α} {P Q : α → Prop} (h1 : Ok x P) (h2 : Ok x Q) : Ok x (fun r => P r ∧ Q r) := by
  obtain ⟨r, e, p⟩ := h1
  obtain ⟨r', e', q⟩ := h2
  rw [e] at e'; injection e' with e'; subst e'
  exact ⟨r, e, p, q⟩
section
variable {α : Type}
theorem swap_pm' {l : List α} {j : Nat} (h : 0 < j) (hj : j < l.length) : ((l.set j (l[j - 1]'(by omega))).set (j - 1) l[j]).Perm l := by
  have h1 := Array.swap_perm (xs := l.toArray) (i := j) (j := j - 1) (by simpa using hj) (by simp; omega)
  have h2 := Array.perm_iff_toList_perm.1 h1
  simpa [Array.swap] using h2
theorem gI2_pm' {P : α → Prop} {f : α → α → Int} {c : α → α → Option Int} (hc : ∀ x y, P x → P y → c x y = some (f x y)) {n : Nat} (hn : n ≤ 100000) {l0 l : List α} (hl : l.length = n) (hP : All P l) (h0 : l.Perm l0) {i : Nat} (hi : i < n) :
    Ok (loopO (gI2 c 0) (l, (i : Int))) (fun r => r.length = n ∧ All P r ∧ r.Perm l0) := by
  refine loop_ok (fun s : List α × Int => s.1.length = n ∧ All P s.1 ∧ s.1.Perm l0 ∧ ∃ j : Nat, s.2 = (j : Int) ∧ j ≤ i) (fun s => s.2.toNat) ?_ ⟨hl, hP, h0, i, rfl, Nat.le_refl _⟩
  rintro ⟨m, q⟩ ⟨m1, m2, m3, j, rfl, j1⟩
  simp only at m1 m2 m3
  unfold gI2 gI3
  by_cases hj : (0 : Int) < j
  · have w1 : IntKind.wrap .i64 ((j : Int) - 1) = ((j - 1 : Nat) : Int) := by rw [wrap64 (by omega) (by omega)]; omega
    have hjm : j < m.length := by omega
    have hjm1 : j - 1 < m.length := by omega
    have hy := m2 _ (List.getElem_mem hjm)
    have hx := m2 _ (List.getElem_mem hjm1)
    simp only [hj, decide_true, cond_true, w1, at_nat hjm, at_nat hjm1, Option.bind_some, hc _ _ hy hx]
    refine .cond (fun hlt => ?_) (fun hge => ?_)
    · have g3 : at? (m.set (j : Int).toNat m[j - 1]) ((j - 1 : Nat) : Int) = some m[j - 1] := by
        rw [at_nat (by simp; omega)]
        simp only [Int.toNat_natCast, List.getElem_set]
        rw [if_neg (by omega)]
      rw [g3]
      simp only [Option.bind_some, Int.toNat_natCast]
      exact .some ⟨⟨by simp [m1], (m2.set hx).set hy, (swap_pm' (by omega) hjm).trans m3, j - 1, rfl, by omega⟩, by simp only; omega⟩
    · exact .some ⟨m1, m2, m3⟩
  · have hj' : ¬ (0 : Int) < j := hj
    simp only [hj', decide_false, cond_false, Option.bind_some]
    exact .some ⟨m1, m2, m3⟩
theorem gI_pm' {P : α → Prop} {f : α → α → Int} {c : α → α → Option Int} (hc : ∀ x y, P x → P y → c x y = some (f x y)) {l : List α} (hl : l.length ≤ 100000) (hP : All P l) : Ok (gI c l 0 l.length) (fun r => r.Perm l) := by
  unfold gI
  have w : IntKind.wrap .i64 ((0 : Int) + 1) = 1 := by decide
  rw [w]
  refine Ok.bind (P := fun r : List α => r.Perm l) (loop_ok (fun s : List α × Int => s.1.length = l.length ∧ All P s.1 ∧ s.1.Perm l ∧ ∃ i : Nat, s.2 = (i : Int)) (fun s => ((l.length : Int) - s.2).toNat) ?_
    ⟨rfl, hP, List.Perm.refl _, 1, rfl⟩) fun r hr => .some hr
  rintro ⟨m, q⟩ ⟨m1, m2, m3, i, rfl⟩
  simp only at m1 m2 m3
  unfold gI1
  by_cases hi : i < l.length
  · have hi' : (i : Int) < l.length := by omega
    have w1 : IntKind.wrap .i64 ((i : Int) + 1) = ((i + 1 : Nat) : Int) := by rw [wrap64 (by omega) (by omega)]; omega
    simp only [hi', decide_true, cond_true]
    refine (gI2_pm' hc (n := l.length) hl m1 m2 m3 hi).bind fun r hr => ?_
    rw [w1]
    exact .some ⟨⟨hr.1, hr.2.1, hr.2.2, i + 1, rfl⟩, by simp only; omega⟩
  · have hi' : ¬ (i : Int) < l.length := by omega
    simp only [hi', decide_false, cond_false]
    exact .some m3
theorem gSort_pm {α : Type} {P : α → Prop} {f : α → α → Int} {c : α → α → Option Int} (hc : ∀ x y, P x → P y → c x y = some (f x y)) (anti : ∀ x y, f y x = - f x y) (tr : ∀ x y z, f x y ≤ 0 → f y z ≤ 0 → f x z ≤ 0)
    {l : List α} (hl : l.length < 20) (hP : All P l) : Ok (gSort c l) (fun r => r.Perm l ∧ Ord f r l.length) := by
  obtain ⟨r, h1, ⟨h2, h3, h4⟩, h5⟩ := (gI_ord hc anti tr (l := l) (by omega) hP).and1 (gI_pm' hc (l := l) (by omega) hP)
  have e1 : loopO (gS1 c (l.length : Int)) (l, 0, 20) = some (l, 0) := by
    have : ¬ (20 : Int) ≤ l.length := by omega
    exact loop_out (by simp [gS1, this])
  have e2 : loopO (gS2 (l.length : Int)) 20 = some () := by
    have : ¬ (20 : Int) < l.length := by omega
    exact loop_out (by simp [gS2, this])
  refine ⟨r, ?_, h5, h4⟩
  unfold gSort gS
  simp only [e1, Option.bind_some, h1, h2, beq_self_eq_true, gd, e2, cond_true]
end
theorem cmpB_tr0 : ∀ {a b c : List UInt8}, Lib.compareBytes a b ≤ 0 → Lib.compareBytes b c ≤ 0 → Lib.compareBytes a c ≤ 0
  | [], [], c, _, h => h
  | [], _ :: _, [], _, _ => by simp [Lib.compareBytes]
  | [], _ :: _, _ :: _, _, _ => by simp [Lib.compareBytes]
  | _ :: _, [], _, h, _ => by simp [Lib.compareBytes] at h
  | _ :: _, _ :: _, [], _, h => by simp [Lib.compareBytes] at h
  | x :: a, y :: b, z :: c, h1, h2 => by
    unfold Lib.compareBytes at *
    by_cases xy : x < y
    · by_cases yz : y < z
      · simp [UInt8.lt_trans xy yz]
      · by_cases zy : z < y
        · simp [yz, zy] at h2
        · have e : y = z := UInt8.le_antisymm (UInt8.not_lt.1 zy) (UInt8.not_lt.1 yz)
          subst e; simp [xy]
    · by_cases yx : y < x
      · simp [xy, yx] at h1
      · have e : x = y := UInt8.le_antisymm (UInt8.not_lt.1 yx) (UInt8.not_lt.1 xy)
        subst e
        simp only [xy, if_false] at h1
        by_cases xz : x < z
        · simp [xz]
        · by_cases zx : z < x
          · simp [xz, zx] at h2
          · simp only [xz, zx, if_false] at h2 ⊢
            exact cmpB_tr0 h1 h2

theorem lex_tr {a12 a23 a13 b12 b23 b13 : Int} (ha : a12 ≤ 0 → a23 ≤ 0 → a13 ≤ 0) (ha0 : a12 ≤ 0 → a23 ≤ 0 → a13 = 0 → a12 = 0 ∧ a23 = 0) (hb : b12 ≤ 0 → b23 ≤ 0 → b13 ≤ 0) (h1 : or0 a12 b12 ≤ 0) (h2 : or0 a23 b23 ≤ 0) : or0 a13 b13 ≤ 0 := by
  unfold or0 at *
  split at h1 <;> split at h2 <;> split <;> rename_i p q r
  · exact hb h1 h2
  · exact ha (by omega) (by omega)
  · have := ha0 (by omega) (by omega) r; omega
  · exact ha (by omega) (by omega)
  · have := ha0 (by omega) (by omega) r; omega
  · exact ha (by omega) (by omega)
  · have := ha0 (by omega) (by omega) r; omega
  · exact ha (by omega) (by omega)
theorem cmpI_tr {a b c : Int} (h1 : cmpI a b ≤ 0) (h2 : cmpI b c ≤ 0) : cmpI a c ≤ 0 := by
  unfold cmpI at *; (repeat' split at h1) <;> (repeat' split at h2) <;> (repeat' split) <;> omega
theorem first2 (a b : Int) : z4 [a, b] = some (or0 a b) := by
  unfold z4
  have t0 : at? [a, b] 0 = some a := rfl
  have t1 : at? [a, b] 1 = some b := rfl
  have i1 : IntKind.wrap .i64 ((0 : Int) + 1) = 1 := by decide
  have i2 : IntKind.wrap .i64 ((1 : Int) + 1) = 2 := by decide
  have c0 : (0 : Int) < (([a, b] : List Int).length : Int) := by simp
  have c1 : (1 : Int) < (([a, b] : List Int).length : Int) := by simp
  have c2 : ¬ (2 : Int) < (([a, b] : List Int).length : Int) := by simp
  unfold or0
  by_cases ha : a = 0
  · rw [loop_in (s' := (1 : Int))]
    · by_cases hb : b = 0
      · rw [loop_in (s' := (2 : Int)), loop_out (r := .inl ())]
        · simp [ha, hb]
        · unfold z7
          simp only [c2, decide_false, cond_false]
        · unfold z7
          subst ha; subst hb
          simp only [c1, decide_true, cond_true, t1, Option.bind_some, Bool.not_true, cond_false, i2]
      · rw [loop_out (r := .inr b)]
        · simp [ha]
        · unfold z7
          simp only [c1, decide_true, cond_true, t1, Option.bind_some, hb, decide_false, Bool.not_false]
    · unfold z7
      subst ha
      simp only [c0, decide_true, cond_true, t0, Option.bind_some, Bool.not_true, cond_false, i1]
  · rw [loop_out (r := .inr a)]
    · simp [ha]
    · unfold z7
      simp only [c0, decide_true, cond_true, t0, Option.bind_some, ha, decide_false, Bool.not_false]

end Go.Eng

/-
Marks: checked and merged, both ways.
-/
namespace Go.Eng
open Go
set_option linter.unusedVariables false
set_option linter.unusedSimpArgs false
theorem mEta (x : api_Mark) : api_Mark.mk x.At x.Device x.Kind (api_Version.mk x.Version.Major x.Version.Minor x.Version.Patch) = x := rfl
theorem vEta (v : api_Version) : api_Version.mk v.Major v.Minor v.Patch = v := rfl
def vOrd (a b : api_Version) : Int := or0 (cmpI a.Major b.Major) (or0 (cmpI a.Minor b.Minor) (cmpI a.Patch b.Patch))
def mOrd (x y : api_Mark) : Int := or0 (cmpI x.At y.At) (Lib.compareBytes x.Device y.Device)
def mFull (x y : api_Mark) : Int := or0 (mOrd x y) (or0 (cmpI x.Kind y.Kind) (vOrd x.Version y.Version))
/-- Marks as streams make them. -/
def M1 (x : api_Mark) : Prop := (x.Device.length : Int) ≤ 1000 ∧ (-2199023255552 ≤ x.At ∧ x.At ≤ 2199023255552)
theorem vOrd_anti (a b : api_Version) : vOrd b a = - vOrd a b := by
  unfold vOrd; rw [cmpI_anti a.Major, cmpI_anti a.Minor, cmpI_anti a.Patch, or0_neg, or0_neg]
theorem mOrd_anti (x y : api_Mark) : mOrd y x = - mOrd x y := by
  unfold mOrd; rw [cmpI_anti x.At, cmpB_anti x.Device, or0_neg]
theorem mFull_anti (x y : api_Mark) : mFull y x = - mFull x y := by
  unfold mFull; rw [mOrd_anti x, cmpI_anti x.Kind, vOrd_anti x.Version, or0_neg, or0_neg]
theorem cmpI_tr00 {a b c : Int} (h1 : cmpI a b ≤ 0) (h2 : cmpI b c ≤ 0) (h3 : cmpI a c = 0) : cmpI a b = 0 ∧ cmpI b c = 0 := by
  unfold cmpI at *; (repeat' split at h1) <;> (repeat' split at h2) <;> (repeat' split at h3) <;> (repeat' split) <;> omega
theorem vOrd_tr {a b c : api_Version} (h1 : vOrd a b ≤ 0) (h2 : vOrd b c ≤ 0) : vOrd a c ≤ 0 := by
  unfold vOrd at *
  exact lex_tr cmpI_tr cmpI_tr00 (lex_tr cmpI_tr cmpI_tr00 cmpI_tr) h1 h2
theorem mOrd_tr (x y z : api_Mark) (h1 : mOrd x y ≤ 0) (h2 : mOrd y z ≤ 0) : mOrd x z ≤ 0 := by
  unfold mOrd at *
  exact lex_tr cmpI_tr cmpI_tr00 cmpB_tr0 h1 h2
theorem cmpI_zero {a b : Int} : cmpI a b = 0 ↔ a = b := by unfold cmpI; (repeat' split) <;> omega
theorem or0_zero {a b : Int} : or0 a b = 0 ↔ a = 0 ∧ b = 0 := by unfold or0; split <;> omega
theorem mOrd_zero {x y : api_Mark} : mOrd x y = 0 ↔ x.At = y.At ∧ x.Device = y.Device := by
  unfold mOrd
  rw [or0_zero, cmpI_zero, cmpB_zero]
theorem mOrd_tr00 {x y z : api_Mark} (h1 : mOrd x y ≤ 0) (h2 : mOrd y z ≤ 0) (h3 : mOrd x z = 0) : mOrd x y = 0 ∧ mOrd y z = 0 := by
  obtain ⟨p1, p2⟩ := mOrd_zero.1 h3
  have e : mOrd y z = mOrd y x := by unfold mOrd; rw [p1, p2]
  have := mOrd_anti x y
  omega
theorem mFull_tr (x y z : api_Mark) (h1 : mFull x y ≤ 0) (h2 : mFull y z ≤ 0) : mFull x z ≤ 0 := by
  unfold mFull at *
  exact lex_tr (fun h h' => mOrd_tr x y z h h') mOrd_tr00 (lex_tr cmpI_tr cmpI_tr00 vOrd_tr) h1 h2
theorem mFull_le {x y : api_Mark} (h : mFull x y ≤ 0) : mOrd x y ≤ 0 := by
  unfold mFull or0 at h; split at h <;> omega
def mrkE (x y : api_Mark) : Bool := decide (x.At = y.At) && (decide (x.Device = y.Device) && (decide (x.Kind = y.Kind) && ((decide (x.Version.Major = y.Version.Major) && (decide (x.Version.Minor = y.Version.Minor) && (decide (x.Version.Patch = y.Version.Patch) && true))) && true)))
theorem mrkE_iff {x y : api_Mark} : mrkE x y = true ↔ x = y := by
  obtain ⟨a, b, c, ⟨d, e, f⟩⟩ := x
  obtain ⟨a', b', c', ⟨d', e', f'⟩⟩ := y
  unfold mrkE
  simp
theorem bM_eq (x y : api_Mark) : z175 x y = some (mOrd x y) := by
  unfold z175 z930 z100
  rw [cmpInt_eq]
  simp only [Option.bind_some]
  rw [Or_eq _ (by simp)]
  simp only [Option.bind_some]
  congr 1
  unfold mOrd or0
  by_cases h1 : cmpI x.At y.At = 0 <;> by_cases h2 : Lib.compareBytes x.Device y.Device = 0 <;> simp [List.find?_cons, h1, h2]
theorem cmpV_eq (a b : api_Version) : z151 a b = some (vOrd a b) := by
  unfold z151
  rw [cmpInt_eq, cmpInt_eq, cmpInt_eq]
  simp only [Option.bind_some]
  rw [Or_eq _ (by simp)]
  simp only [Option.bind_some]
  congr 1
  unfold vOrd or0
  by_cases h1 : cmpI a.Major b.Major = 0 <;> by_cases h2 : cmpI a.Minor b.Minor = 0 <;> by_cases h3 : cmpI a.Patch b.Patch = 0 <;> simp [List.find?_cons, h1, h2, h3]
theorem mFull_eq (x y : api_Mark) : z155 x y = some (mFull x y) := by
  unfold z155
  simp only [mEta, vEta, bM_eq, cmpV_eq, cmpInt_eq, Option.bind_some]
  rw [Or_eq _ (by simp)]
  simp only [Option.bind_some]
  congr 1
  unfold mFull or0
  by_cases h1 : mOrd x y = 0 <;> by_cases h2 : cmpI x.Kind y.Kind = 0 <;> by_cases h3 : vOrd x.Version y.Version = 0 <;> simp [List.find?_cons, h1, h2, h3]
theorem mOrder_eq {x y : api_Mark} (hx : M1 x) (hy : M1 y) : z398 x y = some (mOrd x y) := by
  obtain ⟨x1, x2⟩ := hx
  obtain ⟨y1, y2⟩ := hy
  unfold z398 z930 z100
  rw [wrap64 (by omega) (by omega), sign_eq]
  have e : cmpI (x.At - y.At) 0 = cmpI x.At y.At := by unfold cmpI; (repeat' split) <;> omega
  rw [e]
  unfold mOrd or0
  by_cases h : x.At = y.At
  · have : cmpI x.At y.At = 0 := cmpI_zero.2 h
    simp [h, this, cmpI_zero.2 rfl]
  · have : ¬ cmpI x.At y.At = 0 := fun h' => h (cmpI_zero.1 h')
    simp [h, this]
theorem mcom1_eq : z489 = gCom (fun x y => some (mrkE x y)) (api_Mark.mk 0 [] 0 (api_Version.mk 0 0 0)) := by kernel_rfl
theorem msortR_eq : z537 = gSort z398 := by kernel_rfl
theorem msortB_eq : z534 = gSQ z155 := by kernel_rfl
theorem mcom2_eq : z472 = gCom z276 (api_Mark.mk 0 [] 0 (api_Version.mk 0 0 0)) := by kernel_rfl
/-! ### Checks -/
def verB (v : api_Version) : Bool := (decide (0 ≤ v.Major) && decide (v.Major ≤ 9999)) && ((decide (0 ≤ v.Minor) && decide (v.Minor ≤ 9999)) && (decide (0 ≤ v.Patch) && decide (v.Patch ≤ 9999)))
theorem out_b (n low high : Int) : (decide (n < low) || decide (high < n)) = !(decide (low ≤ n) && decide (n ≤ high)) := by
  by_cases h1 : n < low
  · have : ¬ low ≤ n := by omega
    simp [h1, this]
  · have h1' : low ≤ n := by omega
    by_cases h2 : high < n
    · have : ¬ n ≤ high := by omega
      simp [h1, h1', h2, this]
    · have : n ≤ high := by omega
      simp [h1, h1', h2, this]
theorem Version_eq (v : api_Version) : z76 v = some (verB v) := by
  unfold z76 z79 verB
  simp only [Out_eq, out_b, Option.bind_some, Bool.not_not]
  cases (decide (0 ≤ v.Major) && decide (v.Major ≤ 9999)) <;> cases (decide (0 ≤ v.Minor) && decide (v.Minor ≤ 9999)) <;> rfl
theorem verFault_eq (v : api_Version) : z462 v = some (cond (verB v) 0 1) := by
  unfold z462 z465 verB
  simp only [in_eq, Option.bind_some]
  cases (decide (0 ≤ v.Major) && decide (v.Major ≤ 9999)) <;> cases (decide (0 ≤ v.Minor) && decide (v.Minor ≤ 9999)) <;> cases (decide (0 ≤ v.Patch) && decide (v.Patch ≤ 9999)) <;> rfl
def momB (n : Int) : Bool := decide (0 ≤ n) && decide (n ≤ 345686399999)
def mrkB (x : api_Mark) : Option Int :=
  cond (!momB x.At) (some 1) (cond (!keyB x.Device) (some 5) (cond (!(decide (1 ≤ x.Kind) && decide (x.Kind ≤ 5))) (some 4) (cond (!verB x.Version) (some 1) none)))
def chkM (l : List api_Mark) (i : Nat) (x : api_Mark) : Option Int :=
  match mrkB x with
  | some e => some e
  | none => match i with
    | 0 => none
    | j + 1 => match l[j]? with
      | some y => if mOrd x y ≤ 0 then some 7 else none
      | none => none
def checkM (l : List api_Mark) : Int := if 3000 < l.length then 2 else (scan (chkM l) 0 l).getD 0
theorem scan_end {α : Type} (g : Nat → α → Option Int) : ∀ (l : List α) (k : Nat), (match ((scan (fun i x => (g i x).map Sum.inr) k l).getD (Sum.inl ()) : Unit ⊕ Int) with | .inl _ => (some 0 : Option Int) | .inr v => some v) = some ((scan g k l).getD 0)
  | [], _ => rfl
  | c :: s, k => by
    simp only [scan]
    cases g k c with
    | none => exact scan_end g s (k + 1)
    | some r => rfl
theorem CheckMarks_eq {l : List api_Mark} (hb : All M1 l) (hl : (l.length : Int) ≤ 9223372036854775807) : z139 l = some (checkM l) := by
  unfold z139 checkM
  by_cases h5 : 3000 < l.length
  · have : (3000 : Int) < l.length := by omega
    simp [this, h5]
  have h5' : ¬ (3000 : Int) < l.length := by omega
  simp only [h5', decide_false, cond_false, h5, if_false]
  rw [range_loop (l := l) (fun i x => (chkM l i x).map .inr) (.inl ()) hl]
  · exact scan_end (chkM l) l 0
  · intro i hi
    obtain ⟨b1, b2⟩ := hb l[i] (List.getElem_mem hi)
    unfold z142
    rw [at_nat hi]
    have h0 : ((i : Int) < l.length) := by omega
    simp only [h0, decide_true, cond_true, Option.bind_some]
    unfold z147 chkM mrkB
    simp only [Moment_eq, Key_eq _ (show ((l[i].Device.length : Nat) : Int) ≤ 9223372036854775807 by omega), Out_eq, out_b, vEta, Version_eq, Option.bind_some, mEta, bM_eq]
    rw [show (decide (0 ≤ l[i].At) && decide (l[i].At ≤ 345686399999)) = momB l[i].At from rfl]
    cases momB l[i].At
    · rfl
    cases keyB l[i].Device
    · rfl
    cases (decide (1 ≤ l[i].Kind) && decide (l[i].Kind ≤ 5))
    · rfl
    cases verB l[i].Version
    · rfl
    simp only [Bool.not_true, cond_false]
    cases i with
    | zero => rfl
    | succ j =>
      have e1 : IntKind.wrap .i64 (((j + 1 : Nat) : Int) - 1) = (j : Int) := by rw [wrap64 (by omega) (by omega)]; omega
      have hj : j < l.length := by omega
      have hp : (0 : Int) < ((j + 1 : Nat) : Int) := by omega
      simp only [hp, decide_true, cond_true, e1, at_nat hj, Option.bind_some, List.getElem?_eq_getElem hj]
      by_cases hc : mOrd l[j + 1] l[j] ≤ 0 <;> simp [hc]
  · unfold z142
    simp
theorem MarksFault_eq {l : List api_Mark} (hb : All M1 l) (hl : (l.length : Int) ≤ 9223372036854775807) : z401 l = some (checkM l) := by
  unfold z401 checkM
  by_cases h5 : 3000 < l.length
  · have : (3000 : Int) < l.length := by omega
    simp [this, h5]
  have h5' : ¬ (3000 : Int) < l.length := by omega
  simp only [h5', decide_false, cond_false, h5, if_false]
  rw [range_loop (l := l) (fun i x => (chkM l i x).map .inr) (.inl ()) hl]
  · exact scan_end (chkM l) l 0
  · intro i hi
    obtain ⟨b1, b2⟩ := hb l[i] (List.getElem_mem hi)
    unfold z404
    rw [at_nat hi]
    have h0 : ((i : Int) < l.length) := by omega
    simp only [h0, decide_true, cond_true, Option.bind_some]
    unfold z409 chkM mrkB
    simp only [QMoment_eq, QKey_eq _ (show ((l[i].Device.length : Nat) : Int) ≤ 9223372036854775807 by omega), in_eq, vEta, verFault_eq, Option.bind_some, mEta]
    rw [show (decide (0 ≤ l[i].At) && decide (l[i].At ≤ 345686399999)) = momB l[i].At from rfl]
    cases momB l[i].At
    · rfl
    cases keyB l[i].Device
    · rfl
    cases (decide (1 ≤ l[i].Kind) && decide (l[i].Kind ≤ 5))
    · rfl
    cases verB l[i].Version
    · rfl
    simp only [Bool.not_true, cond_false, cond_true, decide_true]
    cases i with
    | zero => rfl
    | succ j =>
      have e1 : IntKind.wrap .i64 (((j + 1 : Nat) : Int) - 1) = (j : Int) := by rw [wrap64 (by omega) (by omega)]; omega
      have hj : j < l.length := by omega
      have hp : (0 : Int) < ((j + 1 : Nat) : Int) := by omega
      have ha := mOrd_anti l[j] l[j + 1]
      simp only [hp, decide_true, cond_true, e1, at_nat hj, Option.bind_some, List.getElem?_eq_getElem hj, mOrder_eq (hb l[j] (List.getElem_mem hj)) (hb l[j + 1] (List.getElem_mem hi))]
      by_cases hc : mOrd l[j + 1] l[j] ≤ 0
      · have : 0 ≤ mOrd l[j] l[j + 1] := by omega
        simp [hc, this]
      · have : ¬ 0 ≤ mOrd l[j] l[j + 1] := by omega
        simp [hc, this]
  · unfold z404
    simp
theorem mrkB_ne (x : api_Mark) : mrkB x ≠ some 0 := by
  unfold mrkB
  generalize momB x.At = a
  generalize keyB x.Device = b
  generalize (decide (1 ≤ x.Kind) && decide (x.Kind ≤ 5)) = c
  generalize verB x.Version = d
  cases a <;> cases b <;> cases c <;> cases d <;> simp
theorem checkM_zero {l : List api_Mark} (h : checkM l = 0) : ∀ (i : Nat) (x : api_Mark), l[i]? = some x → chkM l i x = none := by
  have none_of : ∀ (l0 s : List api_Mark) (k : Nat), (scan (chkM l0) k s).getD 0 = 0 → scan (chkM l0) k s = none := by
    intro l0 s
    induction s with
    | nil => intro k _; rfl
    | cons c s ih =>
      intro k hk
      simp only [scan] at hk ⊢
      cases hg : chkM l0 k c with
      | none => rw [hg] at hk; exact ih (k + 1) hk
      | some r =>
        rw [hg] at hk
        have : r = 0 := hk
        subst this
        exfalso
        unfold chkM at hg
        cases hm : mrkB c with
        | some e =>
          rw [hm] at hg
          have e0 : e = 0 := Option.some.inj hg
          exact mrkB_ne c (by rw [hm, e0])
        | none =>
        rw [hm] at hg
        cases k with
        | zero => simp at hg
        | succ j =>
          simp only at hg
          split at hg
          · split at hg <;> simp at hg
          · simp at hg
  unfold checkM at h
  split at h
  · omega
  · have := scan_none.1 (none_of l l 0 h)
    intro i x hx
    have := this i x hx
    rwa [Nat.zero_add] at this
/-- at most one of a strict row has a key -/
theorem mone_key {a : List api_Mark} (h : a.Pairwise fun x y => mOrd x y < 0) (x : api_Mark) : a.countP (fun y => decide (mOrd x y = 0)) ≤ 1 := by
  rw [List.countP_eq_length_filter]
  have hp := h.filter (fun y => decide (mOrd x y = 0))
  have hm : ∀ y ∈ a.filter (fun y => decide (mOrd x y = 0)), mOrd x y = 0 := fun y hy => of_decide_eq_true (List.mem_filter.1 hy).2
  match hf : a.filter (fun y => decide (mOrd x y = 0)) with
  | [] => simp
  | [_] => simp
  | u :: v :: l =>
    rw [hf] at hp hm
    have h1 := hm u (by simp)
    have h2 := hm v (by simp)
    have h3 := List.rel_of_pairwise_cons hp (List.mem_cons_self ..) (a' := v)
    obtain ⟨p1, p2⟩ := mOrd_zero.1 h1
    obtain ⟨q1, q2⟩ := mOrd_zero.1 h2
    have : mOrd u v = 0 := mOrd_zero.2 ⟨by rw [← p1, q1], by rw [← p2, q2]⟩
    omega

theorem mthree_count {p : api_Mark → Bool} {t : List api_Mark} {i j k : Nat} (hij : i < j) (hjk : j < k) (hk : k < t.length) (pi : p (t[i]'(by omega)) = true) (pj : p (t[j]'(by omega)) = true) (pkk : p t[k] = true) : 3 ≤ t.countP p := by
  have e : t = t.take j ++ t[j] :: t.drop (j + 1) := by rw [List.getElem_cons_drop]; exact (List.take_append_drop j t).symm
  rw [e, List.countP_append, List.countP_cons_of_pos pj]
  have h1 : 0 < (t.take j).countP p := List.countP_pos_iff.2 ⟨t[i], List.mem_iff_getElem.2 ⟨i, by simp; omega, by simp⟩, pi⟩
  have h2 : 0 < (t.drop (j + 1)).countP p := List.countP_pos_iff.2 ⟨t[k], List.mem_iff_getElem.2 ⟨k - (j + 1), by simp; omega, by simp [show j + 1 + (k - (j + 1)) = k by omega]⟩, pkk⟩
  omega

def mix (t : List api_Mark) (x : api_Mark) : Nat := t.findIdx fun y => mrkE x y
/-- what is left of a sorted row in which a key stands at most twice -/
theorem mcom_all {t : List api_Mark} (hl : t.length ≤ 1000) (hs : t.Pairwise fun x y => mOrd x y ≤ 0) (h2 : ∀ x, t.countP (fun y => decide (mOrd x y = 0)) ≤ 2) (hp : All M1 t) :
    ∃ c, gCom (fun x y => some (mrkE x y)) (api_Mark.mk 0 [] 0 (api_Version.mk 0 0 0)) t = some c ∧ c.length ≤ t.length ∧ All M1 c ∧ (c.Pairwise fun x y => mOrd x y ≤ 0) ∧ ∀ x ∈ t, x ∈ c := by
  have hk : ∀ x ∈ t, ∃ h : (mix t x) < t.length, t[(mix t x)] = x := fun x hx => by
    have h : (mix t x) < t.length := List.findIdx_lt_length_of_exists ⟨x, hx, mrkE_iff.2 rfl⟩
    exact ⟨h, (mrkE_iff.1 (List.findIdx_getElem (w := h))).symm⟩
  have key := gCom_key2 (P := fun x => M1 x ∧ x ∈ t) (t := fun x y => some (mrkE x y)) (kf := fun x => ((mix t x) : Int)) (fun x y hx hy => ⟨_, rfl, by
    rw [mrkE_iff]
    constructor
    · rintro rfl; rfl
    · intro h
      have h : (mix t x) = (mix t y) := by omega
      obtain ⟨a1, a2⟩ := hk x hx.2
      obtain ⟨b1, b2⟩ := hk y hy.2
      rw [← a2, ← b2]
      simp only [h]⟩) (z := api_Mark.mk 0 [] 0 (api_Version.mk 0 0 0)) (l := t) (by omega) (fun x hx => ⟨hp x hx, hx⟩) (fun p q hpq hq => by
    have mp : t[p]'(by omega) ∈ t := List.getElem_mem _
    have mq : t[q] ∈ t := List.getElem_mem _
    obtain ⟨a1, a2⟩ := hk _ mp
    obtain ⟨b1, b2⟩ := hk _ mq
    refine Int.ofNat_le.2 (Nat.le_of_not_lt fun hlt => ?_)
    -- the second one stands ahead of the first one too
    have hle : (mix t (t[p]'(by omega))) ≤ p := by
      refine Nat.le_of_not_lt fun h => ?_
      have := List.not_of_lt_findIdx h
      rw [mrkE_iff.2 rfl] at this
      cases this
    have hjp : (mix t t[q]) < p := by omega
    have s1 := List.pairwise_iff_getElem.1 hs ((mix t t[q])) p b1 (by omega) hjp
    have s2 := List.pairwise_iff_getElem.1 hs p q (by omega) hq hpq
    rw [b2] at s1
    have an := mOrd_anti t[q] (t[p]'(by omega))
    have z1 : mOrd t[q] (t[p]'(by omega)) = 0 := by omega
    have z0 : mOrd t[q] t[q] = 0 := mOrd_zero.2 ⟨rfl, rfl⟩
    have := mthree_count (p := fun y => decide (mOrd t[q] y = 0)) (t := t) hjp hpq hq (by rw [b2]; exact decide_eq_true z0) (decide_eq_true z1) (decide_eq_true z0)
    have := h2 t[q]
    omega)
  obtain ⟨c, c0, ⟨c1, c2, c3⟩, c4⟩ := key
  refine ⟨c, c0, c1, fun x hx => (c2 x hx).1, List.Pairwise.imp_of_mem (fun {x y} hx hy h => ?_) c3, fun x hx => ?_⟩
  · obtain ⟨a1, a2⟩ := hk x (c2 x hx).2
    obtain ⟨b1, b2⟩ := hk y (c2 y hy).2
    have := List.pairwise_iff_getElem.1 hs (mix t x) (mix t y) a1 b1 (by omega)
    rwa [a2, b2] at this
  obtain ⟨y, hy, e⟩ := c4 x hx
  have e : (mix t y) = (mix t x) := by omega
  obtain ⟨a1, a2⟩ := hk x hx
  obtain ⟨b1, b2⟩ := hk y (c2 y hy).2
  have : y = x := by rw [← a2, ← b2]; simp only [e]
  exact this ▸ hy

theorem mconcat_eq {a b : List api_Mark} (ha : a.length ≤ 1000) (hb : b.length ≤ 1000) : z506 [a, b] = some (a ++ b) := by
  unfold z506
  have w1 : IntKind.wrap .i64 ((0 : Int) + a.length) = a.length := by rw [wrap64 (by omega) (by omega)]; omega
  have w2 : IntKind.wrap .i64 ((a.length : Int) + b.length) = (a.length : Int) + b.length := wrap64 (by omega) (by omega)
  have n1 : ¬ (a.length : Int) < 0 := by omega
  have n2 : ¬ (a.length : Int) + b.length < 0 := by omega
  have i1 : IntKind.wrap .i64 ((0 : Int) + 1) = 1 := by decide
  have i2 : IntKind.wrap .i64 ((1 : Int) + 1) = 2 := by decide
  have t0 : at? [a, b] 0 = some a := rfl
  have t1 : at? [a, b] 1 = some b := rfl
  have c0 : (0 : Int) < (([a, b] : List (List api_Mark)).length : Int) := by simp
  have c1 : (1 : Int) < (([a, b] : List (List api_Mark)).length : Int) := by simp
  have c2 : ¬ (2 : Int) < (([a, b] : List (List api_Mark)).length : Int) := by simp
  have l1 : loopO (z509 [a, b]) (0, 0) = some ((a.length : Int) + b.length) := by
    rw [loop_in (s' := ((a.length : Int), 1)), loop_in (s' := ((a.length : Int) + b.length, 2)), loop_out (r := (a.length : Int) + b.length)]
    · unfold z509
      simp only [c2, decide_false, cond_false]
    · unfold z509
      simp only [c1, decide_true, cond_true, t1, Option.bind_some, w2, n2, decide_false, cond_false, i2]
    · unfold z509
      simp only [c0, decide_true, cond_true, t0, Option.bind_some, w1, n1, decide_false, cond_false, i1]
  have l2 : loopO (z514 [a, b]) ([], 0) = some (a ++ b) := by
    have g1 : Nat.ble (([] : List api_Mark).length + a.length) LIM = true := ble_lim (by simp; omega)
    have g2 : Nat.ble (a.length + b.length) LIM = true := ble_lim (by omega)
    rw [loop_in (s' := (a, 1)), loop_in (s' := (a ++ b, 2)), loop_out (r := a ++ b)]
    · unfold z514
      simp only [c2, decide_false, cond_false]
    · unfold z514
      simp only [c1, decide_true, cond_true, t1, Option.bind_some, gd_true g2, i2]
    · unfold z514
      simp only [c0, decide_true, cond_true, t0, Option.bind_some, gd_true g1, i1, List.nil_append]
  have g : z527 ((a.length : Int) + b.length) = some [] := by
    unfold z527 z530
    have w3 : IntKind.wrap .i64 ((0 : Int) - 0) = 0 := by decide
    have w4 : IntKind.wrap .i64 ((a.length : Int) + b.length - 0) = (a.length : Int) + b.length := by rw [wrap64 (by omega) (by omega)]; omega
    simp only [n2, decide_false, cond_false, w3, w4]
    by_cases hz : (0 : Int) < (a.length : Int) + b.length
    · have h1 : (decide (0 ≤ (a.length : Int) + b.length) && decide ((a.length : Int) + b.length ≤ 137438953472)) = true := by simp; omega
      simp only [hz, decide_true, cond_true, gd_true h1]
      rw [gd_true (by simp; omega)]
      simp
    · simp [hz]
  rw [l1]
  simp only [Option.bind_some, g, l2]


theorem mOrd_lt_tr {x y z : api_Mark} (h1 : mOrd x y < 0) (h2 : mOrd y z < 0) : mOrd x z < 0 := by
  have t := mOrd_tr x y z (by omega) (by omega)
  by_cases h0 : mOrd x z = 0
  · have a1 := mOrd_anti x z
    have a2 := mOrd_anti y z
    have := mOrd_tr z x y (by omega) (by omega)
    omega
  · omega

theorem mchain_all {l : List api_Mark} (h : ∀ i (hi : i + 1 < l.length), mOrd (l[i]'(by omega)) l[i + 1] < 0) : l.Pairwise fun x y => mOrd x y < 0 := by
  rw [List.pairwise_iff_getElem]
  intro i j hi hj hij
  have key : ∀ k, (hk : i + 1 + k < l.length) → mOrd l[i] (l[i + 1 + k]'hk) < 0 := by
    intro k
    induction k with
    | zero => intro hk; exact h i hk
    | succ k ih => intro hk; exact mOrd_lt_tr (ih (by omega)) (h (i + 1 + k) (by omega))
  have := key (j - i - 1) (by omega)
  simpa only [show i + 1 + (j - i - 1) = j by omega] using this

theorem mpairs_go {l : List api_Mark} (hp : All M1 l) (hl : l.length ≤ 100000) : ∃ r, loopO (z160 l) 1 = some r ∧ loopO (z416 l) 0 = some r := by
  have key : 1 ≤ (l.length : Int) → ∃ r, loopO (z160 l) 1 = some r ∧ loopO (z416 l) 1 = some r ∧ True := by
    intro h1
    refine loop_two (fun i : Int => 1 ≤ i ∧ i ≤ l.length) (fun i => ((l.length : Int) - i).toNat) _ ?_ ⟨by omega, by omega⟩
    rintro i ⟨i1, i2⟩
    unfold z160 z416 z421
    by_cases hi : i < l.length
    · have w1 : IntKind.wrap .i64 (i - 1) = i - 1 := wrap64 (by omega) (by omega)
      obtain ⟨x, x1, x2⟩ := at_i (l := l) (n := i) (by omega) hi
      obtain ⟨y, y1, y2⟩ := at_i (l := l) (n := i - 1) (by omega) (by omega)
      have h0 : 0 < i := by omega
      simp only [hi, h0, decide_true, cond_true, w1, x1, y1, Option.bind_some, mEta, bM_eq, mOrder_eq (hp y y2) (hp x x2)]
      rw [wrap64 (n := i + 1) (by omega) (by omega)]
      cases decide (mOrd y x = 0)
      · left; exact ⟨i + 1, rfl, rfl, ⟨by omega, by omega⟩, by omega⟩
      · right; exact ⟨_, rfl, rfl, trivial⟩
    · right
      simp only [hi, decide_false, cond_false]
      exact ⟨_, rfl, rfl, trivial⟩
  by_cases h0 : (0 : Int) < l.length
  · obtain ⟨r, e1, e2, _⟩ := key (by omega)
    refine ⟨r, e1, ?_⟩
    rw [loopO_eq]
    have : z416 l 0 = some (.inl 1) := by
      unfold z416 z421
      simp only [h0, decide_true, cond_true]
      rfl
    rw [this]
    exact e2
  · have h1 : ¬ (1 : Int) < l.length := by omega
    refine ⟨.inl (), ?_, ?_⟩
    · exact loop_out (by unfold z160; simp only [h1, decide_false, cond_false])
    · exact loop_out (by unfold z416; simp only [h0, decide_false, cond_false])
theorem mstrict_of {l : List api_Mark} (h : checkM l = 0) : l.Pairwise fun x y => mOrd x y < 0 := by
  have h2 := checkM_zero h
  refine mchain_all fun i hi => ?_
  have := h2 (i + 1) l[i + 1] (List.getElem?_eq_getElem hi)
  unfold chkM at this
  cases hs : mrkB l[i + 1] with
  | some e => rw [hs] at this; simp at this
  | none =>
    rw [hs] at this
    simp only [List.getElem?_eq_getElem (show i < l.length by omega)] at this
    have an := mOrd_anti l[i] l[i + 1]
    split at this
    · cases this
    · omega
theorem mloop_left {c : List api_Mark} (hl : c.length ≤ 1000) : Ok (loopO (z160 c) 1) (fun r => r = .inl () → ∀ i (hi : i + 1 < c.length), mOrd (c[i]'(by omega)) c[i + 1] ≠ 0) := by
  refine loop_ok (fun s : Int => ∃ k : Nat, s = (k : Int) ∧ 1 ≤ k ∧ ∀ i (hi : i + 1 < c.length), i + 1 < k → mOrd (c[i]'(by omega)) c[i + 1] ≠ 0) (fun s => ((c.length : Int) - s).toNat) ?_ ⟨1, rfl, by omega, fun i hi h => by omega⟩
  rintro _ ⟨k, rfl, k1, k2⟩
  unfold z160
  by_cases hk : k < c.length
  · have hk' : (k : Int) < c.length := by omega
    have w1 : IntKind.wrap .i64 ((k : Int) - 1) = ((k - 1 : Nat) : Int) := by rw [wrap64 (by omega) (by omega)]; omega
    have w2 : IntKind.wrap .i64 ((k : Int) + 1) = ((k + 1 : Nat) : Int) := by rw [wrap64 (by omega) (by omega)]; omega
    simp only [hk', decide_true, cond_true, w1, w2, at_nat hk, at_nat (show k - 1 < c.length by omega), Option.bind_some, mEta, bM_eq]
    refine .cond (fun _ => .some fun h => by cases h) fun h0 => .some ⟨⟨k + 1, rfl, by omega, fun i hi h => ?_⟩, by omega⟩
    by_cases e : i + 1 = k
    · subst e
      simp only [Nat.add_sub_cancel] at h0
      simpa using h0
    · exact k2 i hi (by omega)
  · have hk' : ¬ (k : Int) < c.length := by omega
    simp only [hk', decide_false, cond_false]
    exact .some fun _ i hi => k2 i hi (by omega)

theorem mmerge_both {a b : List api_Mark} (ha : All M1 a) (hb : All M1 b) (la : a.length ≤ 8) (lb : b.length ≤ 8) :
    ∃ r e, z154 a b = some (r, e) ∧ r.length ≤ 1000 ∧ (or0 (checkM a) (checkM b) ≠ 0 → r = [] ∧ e = or0 (checkM a) (checkM b)) ∧ (or0 (checkM a) (checkM b) = 0 → z413 a b = some (r, e)) := by
  unfold z154 z413
  rw [CheckMarks_eq ha (by omega), CheckMarks_eq hb (by omega), mconcat_eq (by omega) (by omega), msortB_eq, msortR_eq, mcom1_eq]
  simp only [Option.bind_some, first2]
  by_cases h0 : or0 (checkM a) (checkM b) = 0
  · have hab : All M1 (a ++ b) := fun x hx => by
      rcases List.mem_append.1 hx with hx | hx
      · exact ha x hx
      · exact hb x hx
    have za : checkM a = 0 := by unfold or0 at h0; split at h0 <;> omega
    have zb : checkM b = 0 := by unfold or0 at h0; split at h0 <;> omega
    have sa := mstrict_of za
    have sb := mstrict_of zb
    obtain ⟨t, t0, tp, ts⟩ := gSQ_ok (f := mFull) (c := z155) mFull_eq mFull_anti mFull_tr (l := a ++ b) (by simp; omega)
    have ts : t.Pairwise fun x y => mOrd x y ≤ 0 := ts.imp fun h => mFull_le h
    obtain ⟨u, u0, up, us⟩ := gSort_pm (P := M1) (f := mOrd) (c := z398) (fun x y hx hy => mOrder_eq hx hy) mOrd_anti mOrd_tr (l := a ++ b) (by simp; omega) hab
    have us : u.Pairwise fun x y => mOrd x y ≤ 0 := List.pairwise_iff_getElem.2 fun i j hi hj hij => us i j hij (by rw [← up.length_eq]; exact hj) (by rw [up.length_eq]; exact Nat.le_refl _)
    have tl : t.length ≤ 16 := by rw [tp.length_eq]; simp; omega
    have ul : u.length ≤ 16 := by rw [up.length_eq]; simp; omega
    have cnt : ∀ {q : List api_Mark}, q.Perm (a ++ b) → ∀ x, q.countP (fun y => decide (mOrd x y = 0)) ≤ 2 := fun hq x => by
      rw [hq.countP_eq, List.countP_append]
      have := mone_key sa x
      have := mone_key sb x
      omega
    obtain ⟨c, c0, c1, c2, c3, c4⟩ := mcom_all (t := t) (by omega) ts (cnt tp) fun x hx => hab x (tp.mem_iff.1 hx)
    obtain ⟨c', c0', c1', c2', c3', c4'⟩ := mcom_all (t := u) (by omega) us (cnt up) fun x hx => hab x (up.mem_iff.1 hx)
    have gt : (t.length == (a ++ b).length) = true := by rw [tp.length_eq]; simp
    have gu : (u.length == (a ++ b).length) = true := by rw [up.length_eq]; simp
    obtain ⟨r, r1, r2⟩ := mpairs_go c2 (by omega)
    obtain ⟨r', r1', r2'⟩ := mpairs_go c2' (by omega)
    have hn : ¬ (3000 : Int) < (c.length : Int) := by omega
    by_cases hcf : ∃ x ∈ a ++ b, ∃ y ∈ a ++ b, x ≠ y ∧ mOrd x y = 0
    · obtain ⟨x, hx, y, hy, hne, h00⟩ := hcf
      have bad : ∀ {q : List api_Mark} {v : Unit ⊕ Unit}, q.length ≤ 1000 → (q.Pairwise fun x y => mOrd x y ≤ 0) → x ∈ q → y ∈ q → loopO (z160 q) 1 = some v → v = .inr () := by
        intro q v hl hs hxq hyq hv
        obtain ⟨v', e1, e2⟩ := mloop_left (c := q) hl
        rw [hv] at e1
        injection e1 with e1
        subst e1
        cases v with
        | inr _ => rfl
        | inl _ =>
          have hall := mchain_all (l := q) fun i hi => by
            have p1 := e2 rfl i hi
            have p2 := List.pairwise_iff_getElem.1 hs i (i + 1) (by omega) hi (by omega)
            omega
          obtain ⟨i, hi, rfl⟩ := List.mem_iff_getElem.1 hxq
          obtain ⟨j, hj, rfl⟩ := List.mem_iff_getElem.1 hyq
          by_cases hij : i < j
          · have := List.pairwise_iff_getElem.1 hall i j hi hj hij
            omega
          · by_cases hji : j < i
            · have := List.pairwise_iff_getElem.1 hall j i hj hi hji
              have an := mOrd_anti q[i] q[j]
              omega
            · have : i = j := by omega
              subst this
              exact absurd rfl hne
      have e := bad (by omega) c3 (c4 x (tp.mem_iff.2 hx)) (c4 y (tp.mem_iff.2 hy)) r1
      have e' := bad (by omega) c3' (c4' x (up.mem_iff.2 hx)) (c4' y (up.mem_iff.2 hy)) r1'
      subst e e'
      simp only [h0, decide_true, Bool.not_true, cond_false, t0, u0, Option.bind_some, gd_true gt, gd_true gu, c0, c0', r1, r2']
      exact ⟨[], 13, rfl, by simp, fun h => absurd rfl h, fun _ => rfl⟩
    · have : t = u := List.Perm.eq_of_pairwise (le := fun x y => mOrd x y ≤ 0) (fun x y hx hy hxy hyx => by
        have an := mOrd_anti x y
        exact Classical.byContradiction fun hne => hcf ⟨x, tp.mem_iff.1 hx, y, up.mem_iff.1 hy, hne, by omega⟩) ts us (tp.trans up.symm)
      subst this
      simp only [h0, decide_true, Bool.not_true, cond_false, t0, u0, Option.bind_some, gd_true gt, c0, r1, r2]
      cases r with
      | inl _ => exact ⟨c, 0, by simp [hn], by omega, fun h => absurd rfl h, fun _ => by simp [hn]⟩
      | inr _ => exact ⟨[], 13, rfl, by simp, fun h => absurd rfl h, fun _ => rfl⟩
  · simp only [h0, decide_false, Bool.not_false, cond_true]
    exact ⟨[], _, rfl, by simp, fun _ => ⟨rfl, rfl⟩, fun h => h.elim⟩
end Go.Eng

/-
What streams make for campaigns: campaigns, devices and marks.
-/
namespace Go.Eng
open Go
set_option linter.unusedVariables false
set_option linter.unusedSimpArgs false
theorem whole_eq (n : Int) : z360 n = some () := rfl
def W1 (w : api_Wave) : Prop := -2199023255552 ≤ w.Part ∧ w.Part ≤ 2199023255552
abbrev Camp := z253 × (List UInt8) × Int × Int × Int × Int × (List api_Wave) × Int × Int × Int
/-- A campaign as streams make them. -/
def CampS (k : Nat) (r : Camp) : Prop := StrOk k r.1 ∧ r.2.1.length ≤ 10 ∧ (-1099511627776 ≤ r.2.2.2.2.2.1 ∧ r.2.2.2.2.2.1 ≤ 1099511627776) ∧ r.2.2.2.2.2.2.1.length ≤ 10 ∧ ∀ w ∈ r.2.2.2.2.2.2.1, W1 w
theorem RightVersion_ok {k : Nat} {s : z253} (h : StrOk k s) (hk : k + 10 < 1099511627776) : Ok (z347 s) (fun r => StrOk (k + 3) r.1) := by
  unfold z347
  refine (Range_ok h (by omega) (by omega) (by omega)).bind fun ⟨s1, a⟩ ⟨a1, _⟩ => ?_
  simp only at a1
  refine (Pick_ok a1 (by omega) (by simp) (by simp)).bind fun b _ => ?_
  refine (Pick_ok (a1.nxt (by omega)) (by omega) (by simp) (by simp)).bind fun c _ => ?_
  exact .some ((a1.nxt (by omega)).nxt (by omega))
theorem SVersion_ok {k : Nat} {s : z253} (h : StrOk k s) (hk : k + 20 < 1099511627776) : Ok (z353 s) (fun r => StrOk (k + 10) r.1) := by
  unfold z353
  refine (RightVersion_ok h (by omega)).bind fun ⟨s1, v⟩ a1 => ?_
  simp only at a1
  refine Ok.bind (P := fun r : z253 × api_Version => StrOk (k + 10) r.1) ?_ fun ⟨s2, v2⟩ h2 => .some h2
  unfold z356
  refine (Flip_ok a1 (by omega) (by unfold I64; omega)).bind fun b _ => ?_
  refine .cond (fun _ => ?_) (fun _ => .some ((a1.nxt (by omega)).mono (by omega)))
  refine (Odd_ok (a1.nxt (by omega)) (by omega) (by omega) (by omega) (by omega)).bind fun ⟨s3, x⟩ ⟨b1, _⟩ => ?_
  simp only at b1
  refine (Odd_ok b1 (by omega) (by omega) (by omega) (by omega)).bind fun ⟨s4, y⟩ ⟨b2, _⟩ => ?_
  simp only at b2
  exact .some (b2.mono (by omega))
theorem RightCampaign_ok {k : Nat} {s : z253} (h : StrOk k s) (hk : k + 100 < 1099511627776) :
    Ok (z323 s) (fun r => StrOk (k + 30) r.1 ∧ r.2.1.length ≤ 10 ∧ (0 ≤ r.2.2.2.1 ∧ r.2.2.2.1 ≤ 100) ∧ r.2.2.2.2.1.length ≤ 3 ∧ ∀ w ∈ r.2.2.2.2.1, W1 w) := by
  unfold z323
  refine (Some_ok h (by omega) (by simp) (by simp)).bind fun key hkey => ?_
  refine (Pick_ok (h.nxt (by omega)) (by omega) (by simp) (by simp)).bind fun t _ => ?_
  rw [whole_eq]
  simp only [Option.bind_some]
  refine (Pick_ok ((h.nxt (by omega)).nxt (by omega)) (by omega) (by simp) (by simp)).bind fun at_ hat => ?_
  refine (Pick_ok (((h.nxt (by omega)).nxt (by omega)).nxt (by omega)) (by omega) (by simp) (by simp)).bind fun room _ => ?_
  have h4 := (((h.nxt (by omega)).nxt (by omega)).nxt (by omega)).nxt (by omega)
  refine (Next_ok h4 (by omega) (by unfold I64; omega)).bind fun n hn => ?_
  have hn := hn.1 (by omega)
  refine (at_mem (l := [[1000], [500, 500], [200, 300, 500], [100, 900]]) hn.1 (by simp; omega)).bind fun ps hps => ?_
  have hps : ps.length ≤ 3 ∧ ∀ p ∈ ps, 0 ≤ p ∧ p ≤ 1000 := by
    simp only [List.mem_cons, List.not_mem_nil, or_false] at hps
    rcases hps with rfl | rfl | rfl | rfl <;> simp
  have h5 := h4.nxt (by omega)
  refine Ok.bind (P := fun r : z253 × List api_Wave => StrOk (k + 20) r.1 ∧ r.2.length ≤ 3 ∧ ∀ w ∈ r.2, W1 w) ?_ fun ⟨s2, ws⟩ ⟨c1, c2, c3⟩ => ?_
  · refine loop_ok (fun q : z253 × List api_Wave × Int => ∃ i : Nat, q.2.2 = (i : Int) ∧ i ≤ ps.length ∧ StrOk (k + 5 + 3 * i) q.1 ∧ q.2.1.length = i ∧ ∀ w ∈ q.2.1, W1 w) (fun q => ((ps.length : Int) - q.2.2).toNat) ?_ ⟨0, rfl, by omega, h5.mono (by omega), rfl, fun w hw => (nomatch hw)⟩
    rintro ⟨s1, out, i0⟩ ⟨i, e1, e2, e3, e4, e5⟩
    simp only at e1 e3 e4 e5
    subst e1
    unfold z326
    refine .cond (fun hc => ?_) (fun hc => .some ⟨e3.mono (by omega), by simp only; omega, e5⟩)
    have hc : i < ps.length := by simpa using hc
    rw [at_nat hc]
    simp only [Option.bind_some]
    have hp := hps.2 _ (List.getElem_mem hc)
    refine (Pick_ok e3 (by omega) (by simp) (by simp)).bind fun a _ => ?_
    refine (Pick_ok (e3.nxt (by omega)) (by omega) (by simp) (by simp)).bind fun b _ => ?_
    refine (Pick_ok ((e3.nxt (by omega)).nxt (by omega)) (by omega) (by simp) (by simp)).bind fun c _ => ?_
    rw [wrap64 (n := (i : Int) + 1) (by omega) (by omega)]
    refine .gd (ble_lim (by simp; omega)) (.some ⟨⟨i + 1, by simp, by omega, ?_, by simp [e4], ?_⟩, by simp only; omega⟩)
    · exact (((e3.nxt (by omega)).nxt (by omega)).nxt (by omega)).mono (by omega)
    · intro w hw
      rcases List.mem_append.1 hw with hw | hw
      · exact e5 w hw
      · rw [List.mem_singleton.1 hw]
        exact ⟨by simp only; omega, by simp only; omega⟩
  · simp only at c1 c2 c3
    refine Ok.bind (P := fun r : z253 × Int × Int => StrOk (k + 30) r.1) ?_ fun ⟨s3, x, y⟩ h3 => .some ⟨h3, ?_, ?_, c2, c3⟩
    · unfold z331
      refine (Flip_ok c1 (by omega) (by unfold I64; omega)).bind fun b _ => ?_
      refine .cond (fun _ => ?_) (fun _ => .some ((c1.nxt (by omega)).mono (by omega)))
      refine (Pick_ok (c1.nxt (by omega)) (by omega) (by simp) (by simp)).bind fun x _ => ?_
      refine (Pick_ok ((c1.nxt (by omega)).nxt (by omega)) (by omega) (by simp) (by simp)).bind fun y _ => ?_
      exact .some ((((c1.nxt (by omega)).nxt (by omega)).nxt (by omega)).mono (by omega))
    · simp at hkey; rcases hkey with rfl | rfl | rfl <;> simp
    · simp at hat; simp only; omega
theorem Campaign_ok {k : Nat} {s : z253} (h : StrOk k s) (hk : k + 200 < 1099511627776) : Ok (z254 s) (CampS (k + 60)) := by
  unfold z254
  refine (RightCampaign_ok h (by omega)).bind fun ⟨s1, key, t, at_, ws, hf, ht, room⟩ ⟨a1, a2, a3, a4, a5⟩ => ?_
  simp only at a1 a2 a3 a4 a5
  refine Ok.bind (P := CampS (k + 60)) ?_ fun r hr => .some hr
  unfold z257
  refine (Flip_ok a1 (by omega) (by unfold I64; omega)).bind fun b _ => ?_
  have n1 := a1.nxt (by omega)
  have fin : ∀ {s' : z253} {key' : List UInt8} {t1 t2 t3 at' : Int} {ws' : List api_Wave} {x y z : Int}, StrOk (k + 60) s' → key'.length ≤ 10 → (-1099511627776 ≤ at' ∧ at' ≤ 1099511627776) → ws'.length ≤ 10 → (∀ w ∈ ws', W1 w) → CampS (k + 60) (s', key', t1, t2, t3, at', ws', x, y, z) := fun h1 h2 h3 h4 h5 => ⟨h1, h2, h3, h4, h5⟩
  refine .cond (fun _ => ?_) (fun _ => .some (fin (n1.mono (by omega)) a2 (by omega) (by omega) a5))
  refine (Next_ok n1 (by omega) (by unfold I64; omega)).bind fun n _ => ?_
  have n2 := n1.nxt (by omega)
  refine .cond (fun _ => ?_) (fun _ => ?_)
  · refine (Some_ok n2 (by omega) (by simp) (by simp)).bind fun k' hk' => .some (fin ((n2.nxt (by omega)).mono (by omega)) ?_ (by omega) (by omega) a5)
    simp at hk'; rcases hk' with rfl | rfl <;> simp
  refine .cond (fun _ => ?_) (fun _ => ?_)
  · refine (SVersion_ok n2 (by omega)).bind fun ⟨s3, v⟩ b1 => .some (fin (StrOk.mono b1 (by omega)) a2 (by omega) (by omega) a5)
  refine .cond (fun _ => ?_) (fun _ => ?_)
  · refine (Odd_ok n2 (by omega) (by omega) (by omega) (by omega)).bind fun ⟨s3, v⟩ ⟨b1, b2⟩ => ?_
    simp only at b1 b2
    exact .some (fin (b1.mono (by omega)) a2 (by omega) (by omega) a5)
  refine .cond (fun _ => ?_) (fun _ => ?_)
  · refine (Odd_ok n2 (by omega) (by omega) (by omega) (by omega)).bind fun ⟨s3, v⟩ ⟨b1, b2⟩ => ?_
    simp only at b1 b2
    refine (Odd_ok b1 (by omega) (by omega) (by omega) (by omega)).bind fun ⟨s4, v2⟩ ⟨c1, _⟩ => ?_
    simp only at c1
    refine (Odd_ok c1 (by omega) (by omega) (by omega) (by omega)).bind fun ⟨s5, v3⟩ ⟨d1, _⟩ => ?_
    simp only at d1
    refine (Odd_ok d1 (by omega) (by omega) (by omega) (by omega)).bind fun ⟨s6, v4⟩ ⟨e1, _⟩ => ?_
    simp only at e1
    refine .gd (ble_lim (by simp; omega)) (.some (fin (e1.mono (by omega)) a2 (by omega) (by simp; omega) ?_))
    intro w hw
    rcases List.mem_append.1 hw with hw | hw
    · exact a5 w hw
    · rw [List.mem_singleton.1 hw]
      exact ⟨by simp only; omega, by simp only; omega⟩
  refine .cond (fun _ => ?_) (fun _ => ?_)
  · refine (Odd_ok n2 (by omega) (by omega) (by omega) (by omega)).bind fun ⟨s3, v⟩ ⟨b1, b2⟩ => ?_
    simp only at b1
    refine (Odd_ok b1 (by omega) (by omega) (by omega) (by omega)).bind fun ⟨s4, v2⟩ ⟨c1, _⟩ => ?_
    simp only at c1
    exact .some (fin (c1.mono (by omega)) a2 (by omega) (by omega) a5)
  · refine (Odd_ok n2 (by omega) (by omega) (by omega) (by omega)).bind fun ⟨s3, v⟩ ⟨b1, b2⟩ => ?_
    simp only at b1
    exact .some (fin (b1.mono (by omega)) a2 (by omega) (by omega) a5)
/-! ### Devices -/
def V1 (d : api_Device) : Prop := d.Key.length ≤ 10 ∧ d.Model.length ≤ 10 ∧ d.Tenant.length ≤ 10 ∧ d.Tags.length ≤ 10
theorem RightFleet_ok {k : Nat} {s : z253} {most : Int} (h : StrOk k s) (hk : k + 100 < 1099511627776) (hm : 0 ≤ most ∧ most ≤ 6) : Ok (z335 s most) (fun r => StrOk (k + 24) r.1 ∧ r.2.length ≤ 6 ∧ All V1 r.2) := by
  unfold z335
  refine .gd (by simp; omega) ?_
  refine Ok.bind (P := fun r : z253 × List api_Device => StrOk (k + 24) r.1 ∧ r.2.length ≤ 6 ∧ All V1 r.2) ?_ fun ⟨s1, l⟩ hr => .some hr
  have hT : (([([100, 49] : List UInt8), ([100, 50] : List UInt8), ([100, 51] : List UInt8), ([100, 52] : List UInt8), ([100, 53] : List UInt8), ([100, 54] : List UInt8)] : List (List UInt8)).take most.toNat).length ≤ 6 := by simp; omega
  have hE : ∀ x ∈ (([([100, 49] : List UInt8), ([100, 50] : List UInt8), ([100, 51] : List UInt8), ([100, 52] : List UInt8), ([100, 53] : List UInt8), ([100, 54] : List UInt8)] : List (List UInt8)).take most.toNat), x.length ≤ 10 := by
    intro x hx
    have hx := List.mem_of_mem_take hx
    simp at hx
    rcases hx with rfl | rfl | rfl | rfl | rfl | rfl <;> simp
  refine loop_ok (fun q : z253 × List api_Device × Int => ∃ i : Nat, q.2.2 = (i : Int) ∧ (i : Int) ≤ 6 ∧ StrOk (k + 4 * i) q.1 ∧ q.2.1.length ≤ i ∧ All V1 q.2.1) (fun q => (6 - q.2.2).toNat) ?_ ⟨0, rfl, by omega, h.mono (by omega), by simp, All.nil⟩
  rintro ⟨s1, out, i0⟩ ⟨i, e1, e2, e3, e4, e5⟩
  simp only at e1 e3 e4 e5
  subst e1
  unfold z338 z343
  generalize (([([100, 49] : List UInt8), ([100, 50] : List UInt8), ([100, 51] : List UInt8), ([100, 52] : List UInt8), ([100, 53] : List UInt8), ([100, 54] : List UInt8)] : List (List UInt8)).take most.toNat) = T at hT hE
  refine .cond (fun hc => ?_) (fun hc => .some ⟨e3.mono (by omega), by simp only; omega, e5⟩)
  have hc : i < T.length := by simpa using hc
  rw [wrap64 (n := (i : Int) + 1) (by omega) (by omega)]
  refine Ok.bind (P := fun q : z253 × List api_Device => StrOk (k + 4 * (i + 1)) q.1 ∧ q.2.length ≤ i + 1 ∧ All V1 q.2) ?_ fun ⟨s2, l⟩ ⟨h1, h2, h3⟩ => .some ⟨⟨i + 1, by simp, by omega, h1, h2, h3⟩, by simp only; omega⟩
  rw [at_nat hc]
  simp only [Option.bind_some]
  have hk1 := hE _ (List.getElem_mem hc)
  refine (Flip_ok e3 (by omega) (by unfold I64; omega)).bind fun b _ => ?_
  have n1 := e3.nxt (by omega)
  refine .cond (fun _ => ?_) (fun _ => .some ⟨n1.mono (by omega), by simp only; omega, e5⟩)
  refine (Some_ok n1 (by omega) (by simp) (by simp)).bind fun m hm => ?_
  have n2 := n1.nxt (by omega)
  refine (Pick_ok n2 (by omega) (by simp) (by simp)).bind fun x _ => ?_
  have n3 := n2.nxt (by omega)
  refine (Pick_ok n3 (by omega) (by simp) (by simp)).bind fun y _ => ?_
  have n4 := n3.nxt (by omega)
  have hm' : m.length ≤ 10 := by simp at hm; rcases hm with rfl | rfl <;> simp
  refine .gd (ble_lim (by simp; omega)) (.some ⟨n4.mono (by omega), by simp; omega, fun d hd => ?_⟩)
  rcases List.mem_append.1 hd with hd | hd
  · exact e5 d hd
  · rw [List.mem_singleton.1 hd]
    exact ⟨hk1, hm', by simp, by simp⟩
theorem Fleet_ok {k : Nat} {s : z253} {most : Int} (h : StrOk k s) (hk : k + 200 < 1099511627776) (hm : 0 ≤ most ∧ most ≤ 6) : Ok (z261 s most) (fun r => StrOk (k + 60) r.1 ∧ r.2.length ≤ 6 ∧ All V1 r.2) := by
  unfold z261
  refine (RightFleet_ok h (by omega) hm).bind fun ⟨s1, l⟩ ⟨a1, a2, a3⟩ => ?_
  simp only at a1 a2 a3
  refine Ok.bind (P := fun r : z253 × List api_Device => StrOk (k + 60) r.1 ∧ r.2.length ≤ 6 ∧ All V1 r.2) ?_ fun ⟨s2, l2⟩ hr => .some hr
  unfold z264
  refine Ok.bind (P := fun r : z253 × Bool => StrOk (k + 25) r.1 ∧ (r.2 = true → 0 < l.length)) ?_ fun ⟨s2, b⟩ ⟨b1, b2⟩ => ?_
  · unfold z268
    refine .cond (fun hc => ?_) (fun _ => .some ⟨a1.mono (by omega), fun h => by cases h⟩)
    have hc : 0 < l.length := by simpa using hc
    exact (Flip_ok a1 (by omega) (by unfold I64; omega)).bind fun b _ => .some ⟨(a1.nxt (by omega)).mono (by omega), fun _ => hc⟩
  simp only at b1 b2
  refine .cond (fun hb => ?_) (fun _ => .some ⟨b1.mono (by omega), a2, a3⟩)
  have hl := b2 hb
  refine (Next_ok b1 (by omega) (by unfold I64; omega)).bind fun n hn => ?_
  have hn := hn.1 (by omega)
  refine (at_mem hn.1 hn.2).bind fun d hd => ?_
  obtain ⟨d1, d2, d3, d4⟩ := a3 d hd
  have n1 := b1.nxt (by omega)
  refine (Some_ok n1 (by omega) (by simp) (by simp)).bind fun x hx => ?_
  have n2 := n1.nxt (by omega)
  refine (Some_ok n2 (by omega) (by simp) (by simp)).bind fun y hy => ?_
  have n3 := n2.nxt (by omega)
  have hx' : x.length ≤ 10 := by simp at hx; rcases hx with rfl | rfl | rfl <;> first | exact d1 | simp
  have hy' : y.length ≤ 10 := by simp at hy; rcases hy with rfl | rfl <;> simp
  refine (SVersion_ok n3 (by omega)).bind fun ⟨s3, v⟩ c1 => .some ⟨StrOk.mono c1 (by omega), by simpa using a2, ?_⟩
  refine ((a3.set ?_).set ?_).set ?_
  · exact ⟨hx', d2, d3, d4⟩
  · exact ⟨hx', hy', d3, d4⟩
  · exact ⟨hx', hy', d3, d4⟩
/-! ### Marks -/
theorem mcom_t : ∀ x y : api_Mark, M1 x → M1 y → ∃ b, z276 x y = some b := fun x y hx hy => by
  unfold z276
  simp only [mEta]
  rw [mOrder_eq hx hy]
  exact ⟨_, rfl⟩
theorem mcmp_ref : ∀ x y : api_Mark, M1 x → M1 y → ∃ c, z398 x y = some c ∧ z398 x y = some c := fun x y hx hy => ⟨_, mOrder_eq hx hy, mOrder_eq hx hy⟩
/-- A mark of which the moment is not far. -/
def M0 (x : api_Mark) : Prop := (x.Device.length : Int) ≤ 10 ∧ (-1199511627776 ≤ x.At ∧ x.At ≤ 1199511627776)
theorem M0.M1 {x : api_Mark} (h : M0 x) : M1 x := ⟨by have := h.1; omega, by have := h.2; omega⟩
theorem last_ok {l : List api_Mark} (hl : l.length ≤ 100) (m : api_Mark) : Ok (loopO (z298 l m) (api_Mark.mk 0 ([] : List UInt8) 0 (api_Version.mk 0 0 0), 0)) (fun _ => True) := by
  refine loop_ok (fun q : api_Mark × Int => ∃ i : Nat, q.2 = (i : Int) ∧ i ≤ l.length) (fun q => ((l.length : Int) - q.2).toNat) ?_ ⟨0, rfl, by omega⟩
  rintro ⟨x, q⟩ ⟨i, rfl, hi⟩
  unfold z298 z303
  by_cases h : i < l.length
  · have h' : (i : Int) < l.length := by omega
    simp only [h', decide_true, cond_true, at_nat h, Option.bind_some, mEta]
    rw [wrap64 (n := (i : Int) + 1) (by omega) (by omega)]
    cases decide (l[i].Device = m.Device)
    · exact .some ⟨⟨i + 1, by simp, by omega⟩, by simp only; omega⟩
    · exact .some ⟨⟨i + 1, by simp, by omega⟩, by simp only; omega⟩
  · have h' : ¬ (i : Int) < l.length := by omega
    simp only [h', decide_false, cond_false]
    exact .some trivial
theorem Marks_ok {k : Nat} {s : z253} {c : api_Campaign} {fl : List api_Device} {n : Int} (h : StrOk k s) (hk : k + 1000 < 1099511627776) (hn : 0 ≤ n ∧ n ≤ 18) (hc : -1099511627776 ≤ c.At ∧ c.At ≤ 1099511627776) (hf : fl.length ≤ 6) (hV : All V1 fl) :
    Ok (z275 s c fl n) (fun r => StrOk (k + 500) r.1 ∧ All M1 r.2 ∧ (r.2.length : Int) ≤ n) := by
  unfold z275
  refine Ok.bind (P := fun q : z253 × List api_Mark => StrOk (k + 360) q.1 ∧ All M0 q.2 ∧ (q.2.length : Int) ≤ n) ?_ fun ⟨s1, l⟩ ⟨g1, g2, g3⟩ => ?_
  · refine loop_ok (fun q : z253 × List api_Mark × Int × Int => ∃ i : Nat, q.2.2.2 = i ∧ (i : Int) ≤ n ∧ StrOk (k + 20 * i) q.1 ∧ All M0 q.2.1 ∧ q.2.1.length = i ∧ (-1099511627776 ≤ q.2.2.1 ∧ q.2.2.1 ≤ 1099511627776 + 10 * i)) (fun q => (n - q.2.2.2).toNat) ?_ ⟨0, rfl, by omega, h, All.nil, rfl, by simp only; omega⟩
    rintro ⟨s1, out, at_, i0⟩ ⟨i, e1, e2, e3, e4, e5, e6⟩
    simp only at e1 e3 e4 e5 e6
    subst e1
    unfold z281
    refine .cond (fun hc => ?_) (fun hc => .some ⟨e3.mono (by omega), e4, by simp only; omega⟩)
    have hc : (i : Int) < n := by simpa using hc
    refine (Pick_ok e3 (by omega) (by simp) (by simp)).bind fun d hd => ?_
    have hd : 0 ≤ d ∧ d ≤ 10 := by simp at hd; omega
    have wd : IntKind.wrap .i64 (at_ + d) = at_ + d := wrap64 (by omega) (by omega)
    have n1 := e3.nxt (by omega)
    refine (Some_ok n1 (by omega) (by simp) (by simp)).bind fun dev hdev => ?_
    have hdev : dev.length ≤ 10 := by simp at hdev; rcases hdev with rfl | rfl | rfl | rfl | rfl <;> simp
    have n2 := n1.nxt (by omega)
    refine (Range_ok n2 (by omega) (by omega) (by omega)).bind fun ⟨s3, kd⟩ ⟨f1, _⟩ => ?_
    simp only at f1
    refine (Pick_ok f1 (by omega) (by simp) (by simp)).bind fun v _ => ?_
    rw [whole_eq]
    simp only [Option.bind_some]
    refine Ok.bind (P := fun q : z253 × api_Mark => StrOk (k + 20 * i + 6) q.1 ∧ M0 q.2) ?_ fun ⟨s4, m⟩ ⟨p1, p2⟩ => ?_
    · unfold z286
      refine Ok.bind (P := fun q : z253 × Bool => StrOk (k + 20 * i + 5) q.1 ∧ (q.2 = true → 0 < fl.length)) ?_ fun ⟨s4, b⟩ ⟨p1, p2⟩ => ?_
      · unfold z290
        refine .cond (fun hc => ?_) (fun _ => .some ⟨(f1.nxt (by omega)).mono (by omega), fun h => by cases h⟩)
        have hc : 0 < fl.length := by simpa using hc
        exact (Flip_ok (f1.nxt (by omega)) (by omega) (by unfold I64; omega)).bind fun b _ => .some ⟨((f1.nxt (by omega)).nxt (by omega)).mono (by omega), fun _ => hc⟩
      simp only at p1 p2
      rw [wd]
      refine .cond (fun hb => ?_) (fun _ => .some ⟨p1.mono (by omega), by simp only; omega, by simp only; omega⟩)
      have := p2 hb
      refine (Next_ok p1 (by omega) (by unfold I64; omega)).bind fun r hr => ?_
      have hr := hr.1 (by omega)
      refine (at_mem hr.1 hr.2).bind fun y hy => ?_
      have hy := (hV y hy).1
      exact .some ⟨p1.nxt (by omega), by simp only; omega, by simp only; omega⟩
    simp only at p1 p2
    refine Ok.bind (P := fun q : z253 × api_Mark => StrOk (k + 20 * i + 8) q.1 ∧ M0 q.2) ?_ fun ⟨s5, m2⟩ ⟨q1, q2⟩ => ?_
    · unfold z294
      refine (Flip_ok p1 (by omega) (by unfold I64; omega)).bind fun b _ => ?_
      have r1 := p1.nxt (by omega)
      refine .cond (fun _ => ?_) (fun _ => .some ⟨r1.mono (by omega), p2⟩)
      refine (last_ok (l := out) (by omega) m).bind fun z _ => ?_
      refine .cond (fun _ => ?_) (fun _ => .cond (fun _ => ?_) (fun _ => .some ⟨r1.mono (by omega), p2.1, p2.2⟩))
      · exact (Pick_ok r1 (by omega) (by simp) (by simp)).bind fun _ _ => .some ⟨(r1.nxt (by omega)).mono (by omega), p2.1, p2.2⟩
      · exact (Pick_ok r1 (by omega) (by simp) (by simp)).bind fun _ _ => .some ⟨(r1.nxt (by omega)).mono (by omega), p2.1, p2.2⟩
    simp only at q1 q2
    refine Ok.bind (P := fun q : z253 × api_Mark => StrOk (k + 20 * i + 16) q.1 ∧ M0 q.2) ?_ fun ⟨s6, m3⟩ ⟨t1, t2⟩ => ?_
    · unfold z307
      refine (Flip_ok q1 (by omega) (by unfold I64; omega)).bind fun b _ => ?_
      have r1 := q1.nxt (by omega)
      refine .cond (fun _ => ?_) (fun _ => .some ⟨r1.mono (by omega), q2⟩)
      refine (Odd_ok r1 (by omega) (by omega) (by omega) (by omega)).bind fun ⟨s7, x⟩ ⟨u1, u2⟩ => ?_
      simp only at u1 u2
      refine (Some_ok u1 (by omega) (by simp) (by simp)).bind fun y hy => ?_
      have hy : y.length ≤ 10 := by simp at hy; rcases hy with rfl | rfl <;> simp
      refine (Odd_ok (u1.nxt (by omega)) (by omega) (by omega) (by omega) (by omega)).bind fun ⟨s8, w⟩ ⟨v1, _⟩ => ?_
      simp only at v1
      exact .some ⟨v1.mono (by omega), by simp only; omega, by simp only; omega⟩
    simp only at t1 t2
    simp only [mEta]
    rw [wd, wrap64 (n := (i : Int) + 1) (by omega) (by omega)]
    refine .gd (ble_lim (by simp; omega)) (.some ⟨⟨i + 1, by simp, by omega, t1.mono (by omega), ?_, by simp [e5], by simp only; omega⟩, by simp only; omega⟩)
    intro z hz
    rcases List.mem_append.1 hz with hz | hz
    · exact e4 z hz
    · rw [List.mem_singleton.1 hz]; exact t2
  · simp only at g1 g2 g3
    have g2' : All M1 l := fun x hx => (g2 x hx).M1
    obtain ⟨r, r1, _, r3, r4⟩ := gSort_both mcmp_ref (l := l) (by omega) g2'
    rw [msortR_eq]
    simp only [r1, Option.bind_some]
    refine .gd (by simp [r3]) ?_
    refine (Flip_ok g1 (by omega) (by unfold I64; omega)).bind fun b _ => ?_
    have n1 := g1.nxt (by omega)
    refine .cond (fun _ => .some ⟨n1.mono (by omega), r4, by simp only; omega⟩) (fun _ => ?_)
    rw [mcom2_eq]
    exact (gCom_ok mcom_t (by omega) r4).bind fun c ⟨c1, c2⟩ => .some ⟨n1.mono (by omega), c2, by simp only; omega⟩
end Go.Eng

/-
Campaigns: checks, waves, devices; the law CampaignsCheck.
-/
namespace Go.Eng
open Go
set_option linter.unusedVariables false
set_option linter.unusedSimpArgs false
theorem loop_sim2 {σ τ ρ : Type} {f : σ → Option (σ ⊕ ρ)} {g : τ → Option (τ ⊕ ρ)} (R : σ → τ → Prop) (μ : σ → Nat)
    (step : ∀ s t, R s t → (∃ s' t', f s = some (.inl s') ∧ g t = some (.inl t') ∧ R s' t' ∧ μ s' < μ s) ∨ (∃ r, f s = some (.inr r) ∧ g t = some (.inr r))) {s : σ} {t : τ} (h : R s t) : ∃ r, loopO f s = some r ∧ loopO g t = some r := by
  generalize hn : μ s = n
  induction n using Nat.strongRecOn generalizing s t with
  | _ n ih =>
    rcases step s t h with ⟨s', t', h1, h2, h3, h4⟩ | ⟨r, h1, h2⟩
    · obtain ⟨r, e1, e2⟩ := ih (μ s') (by omega) h3 rfl
      exact ⟨r, by rw [loopO_eq, h1]; exact e1, by rw [loopO_eq, h2]; exact e2⟩
    · exact ⟨r, by rw [loopO_eq, h1]; rfl, by rw [loopO_eq, h2]; rfl⟩
/-! ### Campaigns -/
def inB3 (n low high : Int) : Bool := decide (low ≤ n) && decide (n ≤ high)
def wavB (w : api_Wave) : Bool := inB3 w.Part 1 1000 && (inB3 w.Wait 0 2592000000 && (inB3 w.Least 1 500 && inB3 w.Fails 0 1000))
theorem wav_p (w : api_Wave) : z115 w = some (!wavB w) := by
  unfold z115 wavB inB3
  simp only [Out_eq, out_b, Option.bind_some]
  cases (decide (1 ≤ w.Part) && decide (w.Part ≤ 1000)) <;> cases (decide (0 ≤ w.Wait) && decide (w.Wait ≤ 2592000000)) <;> cases (decide (1 ≤ w.Least) && decide (w.Least ≤ 500)) <;> cases (decide (0 ≤ w.Fails) && decide (w.Fails ≤ 1000)) <;> rfl
theorem wav_r (w : api_Wave) : z371 w = some (!wavB w) := by
  unfold z371 wavB inB3
  simp only [in_eq, Option.bind_some]
  cases (decide (1 ≤ w.Part) && decide (w.Part ≤ 1000)) <;> cases (decide (0 ≤ w.Wait) && decide (w.Wait ≤ 2592000000)) <;> cases (decide (1 ≤ w.Least) && decide (w.Least ≤ 500)) <;> cases (decide (0 ≤ w.Fails) && decide (w.Fails ≤ 1000)) <;> rfl
theorem wloop_same (c : api_Campaign) : z110 c = z366 c := by
  funext ⟨s, i⟩
  unfold z110 z366
  simp only [wav_p, wav_r]
theorem hrs_same (c : api_Campaign) : z119 c = some (!(inB3 c.Hours.From 0 86400000 && (inB3 c.Hours.To 0 86400000 && inB3 c.Room 1 500))) ∧ z375 c = some (!(inB3 c.Hours.From 0 86400000 && (inB3 c.Hours.To 0 86400000 && inB3 c.Room 1 500))) := by
  unfold z119 z375 inB3
  simp only [Out_eq, out_b, in_eq, Option.bind_some]
  constructor <;> cases (decide (0 ≤ c.Hours.From) && decide (c.Hours.From ≤ 86400000)) <;> cases (decide (0 ≤ c.Hours.To) && decide (c.Hours.To ≤ 86400000)) <;> cases (decide (1 ≤ c.Room) && decide (c.Room ≤ 500)) <;> rfl
/-- the parts of waves up to one -/
def sumP : List api_Wave → Int
  | [] => 0
  | w :: l => w.Part + sumP l
theorem sumP_take (l : List api_Wave) {i : Nat} (h : i < l.length) : sumP (l.take (i + 1)) = sumP (l.take i) + l[i].Part := by
  induction l generalizing i with
  | nil => simp at h
  | cons w l ih =>
    cases i with
    | zero => simp [sumP]
    | succ i =>
      have := ih (i := i) (by simpa using h)
      simp only [List.take_succ_cons, sumP, List.getElem_cons_succ] at this ⊢
      omega
theorem sumP_bd {l : List api_Wave} (h : ∀ w ∈ l, 1 ≤ w.Part ∧ w.Part ≤ 1000) : 0 ≤ sumP l ∧ sumP l ≤ 1000 * l.length := by
  induction l with
  | nil => simp [sumP]
  | cons w l ih =>
    have := ih fun w hw => h w (by simp [hw])
    have := h w (by simp)
    simp only [sumP, List.length_cons]
    omega
theorem wav_loop {c : api_Campaign} (hl : c.Waves.length ≤ 20) : Ok (loopO (z110 c) (0, 0)) (fun r => match r with | .inl s => s = sumP c.Waves ∧ ∀ w ∈ c.Waves, 1 ≤ w.Part ∧ w.Part ≤ 1000 | .inr _ => True) := by
  refine loop_ok (fun q : Int × Int => ∃ i : Nat, q.2 = (i : Int) ∧ i ≤ c.Waves.length ∧ q.1 = sumP (c.Waves.take i) ∧ ∀ w ∈ c.Waves.take i, 1 ≤ w.Part ∧ w.Part ≤ 1000) (fun q => ((c.Waves.length : Int) - q.2).toNat) ?_ ⟨0, rfl, by omega, by simp [sumP], by simp⟩
  rintro ⟨s, q⟩ ⟨i, rfl, hi, e, hw⟩
  simp only at e
  unfold z110
  by_cases h : i < c.Waves.length
  · have h' : (i : Int) < c.Waves.length := by omega
    simp only [h', decide_true, cond_true, at_nat h, Option.bind_some, wav_p]
    cases hb : wavB c.Waves[i] with
    | false => exact .some trivial
    | true =>
      have hp : 1 ≤ c.Waves[i].Part ∧ c.Waves[i].Part ≤ 1000 := by
        unfold wavB inB3 at hb
        simp only [Bool.and_eq_true, decide_eq_true_eq] at hb
        exact hb.1
      have bd := sumP_bd hw
      have : (c.Waves.take i).length ≤ 20 := by simp; omega
      simp only [Bool.not_true, cond_false]
      rw [wrap64 (n := (i : Int) + 1) (by omega) (by omega), wrap64 (n := s + c.Waves[i].Part) (by omega) (by omega)]
      refine .some ⟨⟨i + 1, by simp, h, ?_, ?_⟩, by simp only; omega⟩
      · rw [sumP_take _ h, ← e]
      · intro w hw'
        rw [List.take_succ_eq_append_getElem h] at hw'
        rcases List.mem_append.1 hw' with hw' | hw'
        · exact hw w hw'
        · rw [List.mem_singleton.1 hw']; exact hp
  · have h' : ¬ (i : Int) < c.Waves.length := by omega
    simp only [h', decide_false, cond_false]
    have : i = c.Waves.length := by omega
    subst this
    rw [List.take_length] at e hw
    exact .some ⟨e, hw⟩
theorem camp_both {c : api_Campaign} (hk : c.Key.length ≤ 1000) : ∃ e, z103 c = some e ∧ z363 c = some e ∧
    (e = 0 → c.Waves.length ≤ 20 ∧ (∀ w ∈ c.Waves, 1 ≤ w.Part ∧ w.Part ≤ 1000) ∧ sumP c.Waves = 1000) := by
  unfold z103 z363 z106
  simp only [Key_eq _ (show ((c.Key.length : Nat) : Int) ≤ 9223372036854775807 by omega), QKey_eq _ (show ((c.Key.length : Nat) : Int) ≤ 9223372036854775807 by omega), vEta, Version_eq, verFault_eq, Moment_eq, QMoment_eq, Option.bind_some, ← wloop_same, (hrs_same c).1, (hrs_same c).2]
  cases keyB c.Key with
  | false => exact ⟨5, rfl, rfl, fun h => by cases h⟩
  | true =>
  cases verB c.Target with
  | false => exact ⟨1, rfl, rfl, fun h => by cases h⟩
  | true =>
  cases (decide (0 ≤ c.At) && decide (c.At ≤ 345686399999)) with
  | false => exact ⟨1, rfl, rfl, fun h => by cases h⟩
  | true =>
  simp only [Bool.not_true, cond_false, cond_true, decide_true]
  by_cases h0 : (c.Waves.length : Int) = 0
  · simp only [h0, decide_true, cond_true]
    exact ⟨3, rfl, rfl, fun h => by cases h⟩
  by_cases h20 : (20 : Int) < c.Waves.length
  · simp only [h0, h20, decide_true, decide_false, cond_true, cond_false]
    exact ⟨2, rfl, rfl, fun h => by cases h⟩
  simp only [h0, h20, decide_false, cond_false]
  obtain ⟨r, r1, r2⟩ := wav_loop (c := c) (by omega)
  rw [r1]
  cases r with
  | inr _ => exact ⟨1, rfl, rfl, fun h => by cases h⟩
  | inl s =>
    obtain ⟨rfl, r3⟩ := r2
    simp only [Option.bind_some]
    by_cases h1000 : sumP c.Waves = 1000
    · have hd : decide (sumP c.Waves = 1000) = true := decide_eq_true h1000
      rw [hd]
      simp only [Bool.not_true, cond_false]
      cases (inB3 c.Hours.From 0 86400000 && (inB3 c.Hours.To 0 86400000 && inB3 c.Room 1 500)) with
      | false => exact ⟨1, rfl, rfl, fun h => by cases h⟩
      | true => exact ⟨0, rfl, rfl, fun _ => ⟨by omega, r3, h1000⟩⟩
    · simp only [h1000, decide_false, Bool.not_false, cond_true]
      exact ⟨15, rfl, rfl, fun h => by cases h⟩
/-! ### Lots and waves -/
noncomputable def hstep (h : Int) (c : UInt8) : Int := IntKind.wrap .u64 ((ibits .xor .u64 h (IntKind.wrap .u64 (c.toNat : Int))) * 1099511628211)
theorem u64_rng (n : Int) : 0 ≤ IntKind.wrap .u64 n ∧ IntKind.wrap .u64 n < 18446744073709551616 := by
  have : IntKind.wrap .u64 n = n % 18446744073709551616 := by unfold IntKind.wrap; simp [IntKind.bits, IntKind.signed]
  rw [this]; omega
theorem xor_zero {h : Int} (h0 : 0 ≤ h ∧ h < 18446744073709551616) : ibits .xor .u64 h 0 = h := by
  have wr : ∀ n : Int, IntKind.wrap .u64 n = n % 18446744073709551616 := fun n => by unfold IntKind.wrap; simp [IntKind.bits, IntKind.signed]
  unfold ibits
  have e : (BitVec.ofInt (IntKind.bits .u64) h ^^^ BitVec.ofInt (IntKind.bits .u64) 0).toNat = h.toNat := by
    have hb : IntKind.bits .u64 = 64 := rfl
    rw [hb]
    have z : BitVec.ofInt 64 0 = 0#64 := rfl
    rw [z, BitVec.xor_zero, BitVec.toNat_ofInt]
    omega
  simp only [e]
  rw [wr]
  omega
theorem hash3 {s : List UInt8} (hs : s.length ≤ 10000) (h : Int) : loopO (z23 s) (h, 0) = some (s.foldl hstep h) := by
  apply Ok.eq
  refine loop_ok (fun q : Int × Int => ∃ i : Nat, q.2 = (i : Int) ∧ i ≤ s.length ∧ q.1 = (s.take i).foldl hstep h) (fun q => ((s.length : Int) - q.2).toNat) ?_ ⟨0, rfl, by omega, by simp⟩
  rintro ⟨x, q⟩ ⟨i, rfl, hi, e⟩
  simp only at e
  unfold z23
  by_cases hc : i < s.length
  · have h' : (i : Int) < s.length := by omega
    simp only [h', decide_true, cond_true, at_nat hc, Option.bind_some]
    rw [wrap64 (n := (i : Int) + 1) (by omega) (by omega)]
    refine .some ⟨⟨i + 1, by simp, hc, ?_⟩, by simp only; omega⟩
    simp only
    rw [List.take_succ_eq_append_getElem hc, List.foldl_append, ← e]
    rfl
  · have h' : ¬ (i : Int) < s.length := by omega
    simp only [h', decide_false, cond_false]
    rw [List.take_of_length_le (by omega)] at e
    exact .some e
theorem hash_lot {s t : List UInt8} (hs : s.length ≤ 10000) (ht : t.length ≤ 10000) : base_Hash [s, t] = some ((s ++ 0 :: t).foldl hstep 14695981039346656037) := by
  have r0 : 0 ≤ s.foldl hstep 14695981039346656037 ∧ s.foldl hstep 14695981039346656037 < 18446744073709551616 := by
    rcases List.eq_nil_or_concat s with rfl | ⟨l, x, rfl⟩
    · simp
    · rw [List.concat_eq_append, List.foldl_append]
      exact u64_rng _
  unfold base_Hash
  rw [loop_in (s' := (s.foldl hstep 14695981039346656037, 1)), loop_in (s' := (t.foldl hstep (hstep (s.foldl hstep 14695981039346656037) 0), 2)), loop_out (r := t.foldl hstep (hstep (s.foldl hstep 14695981039346656037) 0))]
  · simp only [Option.bind_some, List.foldl_append, List.foldl_cons]
  · unfold z14
    have : ¬ (2 : Int) < (([s, t] : List (List UInt8)).length : Int) := by simp
    simp only [this, decide_false, cond_false]
  · unfold z14 z19
    have c1 : (1 : Int) < (([s, t] : List (List UInt8)).length : Int) := by simp
    have t1 : at? [s, t] 1 = some t := rfl
    have e : IntKind.wrap .u64 (s.foldl hstep 14695981039346656037 * 1099511628211) = hstep (s.foldl hstep 14695981039346656037) 0 := by
      generalize s.foldl hstep 14695981039346656037 = h at r0
      unfold hstep
      have : IntKind.wrap .u64 (((0 : UInt8).toNat : Nat) : Int) = 0 := by decide
      rw [this, xor_zero r0]
    simp only [c1, decide_true, cond_true, t1, Option.bind_some, show ((0 : Int) < 1) by decide, e, hash3 ht]
    rfl
  · unfold z14 z19
    have c1 : (0 : Int) < (([s, t] : List (List UInt8)).length : Int) := by simp
    have t1 : at? [s, t] 0 = some s := rfl
    simp only [c1, decide_true, cond_true, t1, Option.bind_some, show ¬ ((0 : Int) < 0) by decide, decide_false, cond_false, hash3 hs]
    rfl
noncomputable def lotV (s t : List UInt8) : Int := IntKind.wrap .i64 ((ibits .xor .u64 ((s ++ 0 :: t).foldl hstep 14695981039346656037) (ishr .u64 ((s ++ 0 :: t).foldl hstep 14695981039346656037) 32)).tmod 1000)
theorem lot_p {c : api_Campaign} {d : List UInt8} (hs : c.Key.length ≤ 10000) (ht : d.length ≤ 10000) : z178 c d = some (lotV c.Key d) := by
  unfold z178
  rw [hash_lot hs ht]
  rfl
theorem lot_r {c : api_Campaign} {d : List UInt8} (hs : c.Key.length ≤ 10000) (ht : d.length ≤ 10000) : z443 c d = some (lotV c.Key d) := by
  unfold z443
  rw [gd_true (ble_lim (by simp; omega)), gd_true (ble_lim (by simp; omega))]
  have key : loopO (z446 c d) (14695981039346656037, 0) = some ((c.Key ++ 0 :: d).foldl hstep 14695981039346656037) := by
    apply Ok.eq
    have eS : (c.Key ++ ([0] : List UInt8)) ++ d = c.Key ++ 0 :: d := by simp
    generalize hS : c.Key ++ 0 :: d = S at *
    have hl : S.length ≤ 30000 := by rw [← hS]; simp; omega
    refine loop_ok (fun q : Int × Int => ∃ i : Nat, q.2 = (i : Int) ∧ i ≤ S.length ∧ q.1 = (S.take i).foldl hstep 14695981039346656037) (fun q => ((S.length : Int) - q.2).toNat) ?_ ⟨0, rfl, by omega, by simp⟩
    rintro ⟨x, q⟩ ⟨i, rfl, hi, e⟩
    simp only at e
    unfold z446
    rw [eS]
    have hb : (bytesD S).length = S.length := by unfold bytesD; simp
    by_cases hc : i < S.length
    · have h' : (i : Int) < (bytesD S).length := by omega
      have hg : at? (bytesD S) (i : Int) = some (((S[i]).toNat : Nat) : Int) := by
        rw [at_nat (show i < (bytesD S).length by omega)]
        unfold bytesD; simp
      simp only [h', decide_true, cond_true, hg, Option.bind_some]
      rw [wrap64 (n := (i : Int) + 1) (by omega) (by omega)]
      refine .some ⟨⟨i + 1, by simp, hc, ?_⟩, by simp only; omega⟩
      simp only
      rw [List.take_succ_eq_append_getElem hc, List.foldl_append, ← e]
      rfl
    · have h' : ¬ (i : Int) < (bytesD S).length := by omega
      simp only [h', decide_false, cond_false]
      rw [List.take_of_length_le (by omega)] at e
      exact .some e
  rw [key]
  rfl
theorem lot_rng (s t : List UInt8) : 0 ≤ lotV s t ∧ lotV s t < 1000 := by
  unfold lotV
  generalize (s ++ 0 :: t).foldl hstep 14695981039346656037 = h
  have r : 0 ≤ ibits .xor .u64 h (ishr .u64 h 32) := by
    unfold ibits
    exact (u64_rng _).1
  generalize ibits .xor .u64 h (ishr .u64 h 32) = n at r
  have e : n.tmod 1000 = n % 1000 := Int.tmod_eq_emod_of_nonneg r
  rw [e, wrap64 (by omega) (by omega)]
  omega
theorem wave_both {c : api_Campaign} {d : List UInt8} (hs : c.Key.length ≤ 1000) (ht : d.length ≤ 1000) (hl : c.Waves.length ≤ 20) (hw : ∀ w ∈ c.Waves, 1 ≤ w.Part ∧ w.Part ≤ 1000) (hsum : sumP c.Waves = 1000) :
    ∃ r, z181 c d = some r ∧ z428 c d = some r := by
  have hn := lot_rng c.Key d
  unfold z181 z428
  have e1 : z178 (api_Campaign.mk c.Key (api_Version.mk c.Target.Major c.Target.Minor c.Target.Patch) c.At c.Waves (api_Window.mk c.Hours.From c.Hours.To) c.Room) d = some (lotV c.Key d) := lot_p (c := c) (by omega) (by omega)
  have e2 : z443 (api_Campaign.mk c.Key (api_Version.mk c.Target.Major c.Target.Minor c.Target.Patch) c.At c.Waves (api_Window.mk c.Hours.From c.Hours.To) c.Room) d = some (lotV c.Key d) := lot_r (c := c) (by omega) (by omega)
  rw [e1, e2]
  simp only [Option.bind_some]
  generalize lotV c.Key d = n at hn
  obtain ⟨r, r1, r2⟩ := loop_sim2 (f := z184 c n) (g := z431 c) (fun (s t : Int × Int) => s.1 = n - t.1 ∧ s.2 = t.2 ∧ ∃ i : Nat, s.2 = (i : Int) ∧ i ≤ c.Waves.length ∧ s.1 = sumP (c.Waves.take i) ∧ s.1 ≤ n) (fun s => ((c.Waves.length : Int) - s.2).toNat) (by
    rintro ⟨s, q⟩ ⟨t, q'⟩ ⟨h1, h2, i, h3, h4, h5, h6⟩
    simp only at h1 h2 h3 h5 h6
    subst h2 h3
    unfold z184 z431
    by_cases h : i < c.Waves.length
    · have h' : (i : Int) < c.Waves.length := by omega
      have hp := hw _ (List.getElem_mem h)
      have bd := sumP_bd (l := c.Waves.take i) fun w hw' => hw w (List.mem_of_mem_take hw')
      have w1 : IntKind.wrap .i64 (s + c.Waves[i].Part) = s + c.Waves[i].Part := wrap64 (by omega) (by omega)
      have w2 : IntKind.wrap .i64 (t - c.Waves[i].Part) = t - c.Waves[i].Part := wrap64 (by omega) (by omega)
      have w3 : IntKind.wrap .i64 ((i : Int) + 1) = ((i + 1 : Nat) : Int) := by rw [wrap64 (by omega) (by omega)]; omega
      simp only [h', decide_true, cond_true, at_nat h, Option.bind_some, w1, w2, w3]
      by_cases hlt : n < s + c.Waves[i].Part
      · have hlt' : t - c.Waves[i].Part < 0 := by omega
        simp only [hlt, hlt', decide_true, cond_true]
        exact .inr ⟨_, rfl, rfl⟩
      · have hlt' : ¬ t - c.Waves[i].Part < 0 := by omega
        simp only [hlt, hlt', decide_false, cond_false]
        exact .inl ⟨_, _, rfl, rfl, ⟨by simp only; omega, rfl, i + 1, rfl, h, by simp only; rw [sumP_take _ h]; omega, by simp only; omega⟩, by simp only; omega⟩
    · exfalso
      have : i = c.Waves.length := by omega
      subst this
      rw [List.take_length] at h5
      omega) (s := (0, 0)) (t := (n, 0)) ⟨by simp, rfl, 0, rfl, by omega, by simp [sumP], hn.1⟩
  rw [r1, r2]
  cases r with
  | inr k => exact ⟨k, rfl, rfl⟩
  | inl u =>
    exfalso
    -- the loop ends within
    have : Ok (loopO (z184 c n) (0, 0)) (fun r => ∃ k, r = .inr k) := by
      refine loop_ok (fun s : Int × Int => ∃ i : Nat, s.2 = (i : Int) ∧ i ≤ c.Waves.length ∧ s.1 = sumP (c.Waves.take i) ∧ s.1 ≤ n) (fun s => ((c.Waves.length : Int) - s.2).toNat) ?_ ⟨0, rfl, by omega, by simp [sumP], hn.1⟩
      rintro ⟨s, q⟩ ⟨i, rfl, h4, h5, h6⟩
      simp only at h5 h6
      unfold z184
      by_cases h : i < c.Waves.length
      · have h' : (i : Int) < c.Waves.length := by omega
        have hp := hw _ (List.getElem_mem h)
        have bd := sumP_bd (l := c.Waves.take i) fun w hw' => hw w (List.mem_of_mem_take hw')
        have w1 : IntKind.wrap .i64 (s + c.Waves[i].Part) = s + c.Waves[i].Part := wrap64 (by omega) (by omega)
        have w3 : IntKind.wrap .i64 ((i : Int) + 1) = ((i + 1 : Nat) : Int) := by rw [wrap64 (by omega) (by omega)]; omega
        simp only [h', decide_true, cond_true, at_nat h, Option.bind_some, w1, w3]
        by_cases hlt : n < s + c.Waves[i].Part
        · simp only [hlt, decide_true, cond_true]
          exact .some ⟨_, rfl⟩
        · simp only [hlt, decide_false, cond_false]
          exact .some ⟨⟨i + 1, rfl, h, by simp only; rw [sumP_take _ h]; omega, by simp only; omega⟩, by simp only; omega⟩
      · exfalso
        have : i = c.Waves.length := by omega
        subst this
        rw [List.take_length] at h5
        omega
    obtain ⟨r, e, k, rfl⟩ := this
    rw [r1] at e
    cases e
/-! ### Devices -/
theorem fl2_p {x : api_Device} (h : V1 x) : z131 x = some (!(keyB x.Key && (keyB x.Model && keyB x.Tenant))) := by
  obtain ⟨h1, h2, h3, h4⟩ := h
  unfold z131
  rw [Key_eq _ (by omega), Key_eq _ (by omega), Key_eq _ (by omega)]
  simp only [Option.bind_some]
  cases keyB x.Key <;> cases keyB x.Model <;> cases keyB x.Tenant <;> rfl
theorem fl2_r {x : api_Device} (h : V1 x) : z387 x = some (!(keyB x.Key && (keyB x.Model && keyB x.Tenant))) := by
  obtain ⟨h1, h2, h3, h4⟩ := h
  unfold z387
  rw [QKey_eq _ (by omega), QKey_eq _ (by omega), QKey_eq _ (by omega)]
  simp only [Option.bind_some]
  cases keyB x.Key <;> cases keyB x.Model <;> cases keyB x.Tenant <;> rfl
theorem fleet_both {l : List api_Device} (hl : l.length ≤ 100) (hV : All V1 l) : ∃ e, z123 l = some e ∧ z379 l = some e := by
  unfold z123 z379
  have h5 : ¬ (500 : Int) < l.length := by omega
  simp only [h5, decide_false, cond_false]
  obtain ⟨r, r1, r2⟩ := loop_sim2 (f := z126 l) (g := z382 l) (fun (s : Int) (t : List UInt8 × Int) => s = t.2 ∧ ∃ i : Nat, s = (i : Int) ∧ i ≤ l.length ∧ (i = 0 → t.1 = []) ∧ ∀ (h : 0 < i) (h2 : i - 1 < l.length), t.1 = l[i - 1].Key) (fun s => ((l.length : Int) - s).toNat) (by
    rintro s ⟨last, q⟩ ⟨h1, i, h2, h3, h4, h5⟩
    simp only at h1 h4 h5
    subst h1 h2
    unfold z126 z382
    by_cases h : i < l.length
    · have h' : (i : Int) < l.length := by omega
      have hx := hV _ (List.getElem_mem h)
      have w3 : IntKind.wrap .i64 ((i : Int) + 1) = ((i + 1 : Nat) : Int) := by rw [wrap64 (by omega) (by omega)]; omega
      simp only [h', decide_true, cond_true, at_nat h, Option.bind_some, fl2_p hx, fl2_r hx, vEta, Version_eq, verFault_eq, w3]
      cases hk : (keyB l[i].Key && (keyB l[i].Model && keyB l[i].Tenant)) with
      | false => exact .inr ⟨_, rfl, rfl⟩
      | true =>
        have hx3 : z135 l i l[i] = some (Op.bytesLess l[i].Key last || decide (l[i].Key = last)) := by
          unfold z135
          cases i with
          | zero =>
            rw [h4 rfl]
            have hne : l[0].Key ≠ [] := by
              intro e
              rw [e] at hk
              simp [keyB] at hk
            have hb : Op.bytesLess l[0].Key [] = false := by
              cases l[0].Key <;> rfl
            simp [hne, hb]
          | succ j =>
            have e1 : IntKind.wrap .i64 (((j + 1 : Nat) : Int) - 1) = (j : Int) := by rw [wrap64 (by omega) (by omega)]; omega
            have hp : (0 : Int) < ((j + 1 : Nat) : Int) := by omega
            have := h5 (by omega) (by omega)
            simp only [Nat.add_sub_cancel] at this
            simp only [hp, decide_true, cond_true, e1, at_nat (show j < l.length by omega), Option.bind_some, this]
        simp only [Bool.not_true, cond_false, hx3, Option.bind_some]
        cases (Op.bytesLess l[i].Key last || decide (l[i].Key = last)) with
        | true => exact .inr ⟨_, rfl, rfl⟩
        | false =>
          cases verB l[i].Firmware with
          | false => exact .inr ⟨_, rfl, rfl⟩
          | true =>
            simp only [Bool.not_true, cond_false, cond_true, decide_true]
            cases decide ((20 : Int) < l[i].Tags.length) with
            | true => exact .inr ⟨_, rfl, rfl⟩
            | false => exact .inl ⟨_, _, rfl, rfl, ⟨rfl, i + 1, rfl, h, fun h => by omega, fun _ _ => rfl⟩, by omega⟩
    · have h' : ¬ (i : Int) < l.length := by omega
      simp only [h', decide_false, cond_false]
      exact .inr ⟨_, rfl, rfl⟩) (s := 0) (t := ([], 0)) ⟨rfl, 0, rfl, by omega, fun _ => rfl, fun h => by omega⟩
  rw [r1, r2]
  cases r with
  | inl _ => exact ⟨0, rfl, rfl⟩
  | inr e => exact ⟨e, rfl, rfl⟩
/-! ### The law -/
theorem errs_first (l : List Int) : z228 l = z4 l := rfl
theorem cwhen_eq (b : Bool) (e : Int) : z243 b e = some (cond b e 0) := by unfold z243; cases b <;> rfl
theorem mequal_self {l : List api_Mark} (hl : (l.length : Int) ≤ 9223372036854775807) : z519 l l = some true := by
  unfold z519
  simp only [decide_true, Bool.not_true, cond_false]
  rw [range_loop (l := l) (fun _ _ => none) (.inl ()) hl]
  · simp only [Option.bind_some]
    have : scan (fun (_ : Nat) (_ : api_Mark) => (none : Option (Unit ⊕ Unit))) 0 l = none := scan_none.2 fun _ _ _ => rfl
    rw [this]
    rfl
  · intro i hi
    unfold z522
    have : ((i : Int) < l.length) := by omega
    simp only [this, decide_true, cond_true, at_nat hi, Option.bind_some, Bool.and_self, Bool.not_true, cond_false]
  · unfold z522
    simp
theorem versioned_eq : z236 = some true := by kernel_rfl
theorem mclone_eq {l : List api_Mark} (h : l.length ≤ 100000) : z469 l = some l := by
  unfold z469
  rw [gd_true (ble_lim (by simp; omega))]
theorem CampaignsCheck_true (L : List Int) (hL : L.length ≤ 9223372036854775807) (hI : ∀ n ∈ L, -9223372036854775808 ≤ n ∧ n ≤ 9223372036854775807) : fleetlaw2_CampaignsCheck L = some true := by
  apply Ok.eq
  unfold fleetlaw2_CampaignsCheck
  have h0 : StrOk 0 (z253.mk L 0) := ⟨Int.le_refl _, by simp, hL, hI⟩
  refine (Campaign_ok h0 (by omega)).bind fun ⟨s1, key, t1, t2, t3, at_, ws, hf, ht, room⟩ ⟨a1, a2, a3, a4, a5⟩ => ?_
  simp only at a1 a2 a3 a4 a5
  refine (Fleet_ok a1 (by omega) (by omega)).bind fun ⟨s2, fl⟩ ⟨b1, b2, b3⟩ => ?_
  simp only at b1 b2 b3
  refine (Some_ok b1 (by omega) (by simp) (by simp)).bind fun d hd => ?_
  have hd' : d.length ≤ 10 := by simp at hd; rcases hd with rfl | rfl | rfl | rfl | rfl | rfl <;> simp
  refine (Range_ok (b1.nxt (by omega)) (by omega) (by omega) (by omega)).bind fun ⟨s3, n1⟩ ⟨c1, c2, c3, _⟩ => ?_
  have c3 := c3 (by omega)
  simp only at c1 c2 c3
  let C : api_Campaign := api_Campaign.mk key (api_Version.mk t1 t2 t3) at_ ws (api_Window.mk hf ht) room
  refine (Marks_ok (c := C) c1 (by omega) ⟨c2, by omega⟩ a3 b2 b3).bind fun ⟨s4, a⟩ ⟨d1, d2, d3⟩ => ?_
  simp only at d1 d2 d3
  refine (Range_ok d1 (by omega) (by omega) (by omega)).bind fun ⟨s5, n2⟩ ⟨e1, e2, e3, _⟩ => ?_
  have e3 := e3 (by omega)
  simp only at e1 e2 e3
  refine (Marks_ok (c := C) e1 (by omega) ⟨e2, by omega⟩ a3 b2 b3).bind fun ⟨s6, b0⟩ ⟨f1, f2, f3⟩ => ?_
  simp only at f1 f2 f3
  refine Ok.bind (P := fun q : List api_Mark => All M1 q ∧ q.length ≤ 8) ?_ fun b ⟨g1, g2⟩ => ?_
  · unfold z204 z208
    refine Ok.bind (P := fun q : z253 × Bool => StrOk 5000 q.1 ∧ (q.2 = true → 0 < a.length)) ?_ fun ⟨s7, b5⟩ ⟨p1, p2⟩ => ?_
    · refine .cond (fun hc => ?_) (fun _ => .some ⟨f1.mono (by omega), fun h => by cases h⟩)
      have hc : 0 < a.length := by simpa using hc
      exact (Flip_ok f1 (by omega) (by unfold I64; omega)).bind fun b _ => .some ⟨(f1.nxt (by omega)).mono (by omega), fun _ => hc⟩
    · simp only at p1 p2
      refine .cond (fun hb => ?_) (fun _ => .some ⟨f2, by omega⟩)
      have hlen := p2 hb
      refine (Next_ok p1 (by omega) (by unfold I64; omega)).bind fun r hr => ?_
      have hr := hr.1 (by omega)
      have hs : sub? a r (a.length : Int) = some ((a.take a.length).drop r.toNat) := by
        unfold sub?
        rw [if_pos ⟨hr.1, by omega, Int.le_refl _⟩]
        simp
      rw [hs]
      simp only [Option.bind_some]
      rw [mclone_eq (by simp; omega)]
      refine .some ⟨fun x hx => d2 x ?_, by simp; omega⟩
      exact List.mem_of_mem_take (List.mem_of_mem_drop hx)
  obtain ⟨e, p1, p2, p3⟩ := camp_both (c := C) (show key.length ≤ 1000 by omega)
  obtain ⟨fe, q1, q2⟩ := fleet_both (l := fl) (by omega) b3
  obtain ⟨m, me, m1, m2, m3, m4⟩ := mmerge_both d2 g1 (by omega) g2
  have hw : ∃ r, z172 C d = some (r, or0 e (cond (keyB d) 0 5)) ∧ z216 key t1 t2 t3 at_ ws hf ht room d e = some (or0 e (cond (keyB d) 0 5), r) := by
    unfold z172 z216
    have p1' : z103 (api_Campaign.mk C.Key (api_Version.mk C.Target.Major C.Target.Minor C.Target.Patch) C.At C.Waves (api_Window.mk C.Hours.From C.Hours.To) C.Room) = some e := p1
    rw [p1', Key_eq d (by omega), QKey_eq d (by omega)]
    simp only [Option.bind_some, cwhen_eq, errs_first, first2]
    by_cases hz : e = 0
    · cases hk : keyB d with
      | false => exact ⟨0, by simp [hz, or0], by simp [hz, or0]⟩
      | true =>
        obtain ⟨w1, w2, w3⟩ := p3 hz
        obtain ⟨r, r1, r2⟩ := wave_both (c := C) (d := d) (show key.length ≤ 1000 by omega) (by omega) w1 w2 w3
        have r1' : z181 (api_Campaign.mk C.Key (api_Version.mk C.Target.Major C.Target.Minor C.Target.Patch) C.At C.Waves (api_Window.mk C.Hours.From C.Hours.To) C.Room) d = some r := r1
        have r2' : z428 (api_Campaign.mk key (api_Version.mk t1 t2 t3) at_ ws (api_Window.mk hf ht) room) d = some r := r2
        exact ⟨r, by simp [hz, or0, r1'], by simp [hz, or0, r2']⟩
    · exact ⟨0, by simp [hz, or0], by simp [hz, or0]⟩
  obtain ⟨wr, w1, w2⟩ := hw
  have p1' : z103 (api_Campaign.mk key (api_Version.mk t1 t2 t3) at_ ws (api_Window.mk hf ht) room) = some e := p1
  have p2' : z363 (api_Campaign.mk key (api_Version.mk t1 t2 t3) at_ ws (api_Window.mk hf ht) room) = some e := p2
  have w1' : z172 (api_Campaign.mk key (api_Version.mk t1 t2 t3) at_ ws (api_Window.mk hf ht) room) d = some (wr, or0 e (cond (keyB d) 0 5)) := w1
  have x3 : z212 key t1 t2 t3 at_ ws hf ht room fl a e = some false := by
    unfold z212
    simp only [p1', q1, q2, CheckMarks_eq d2 (show ((a.length : Nat) : Int) ≤ 9223372036854775807 by omega), MarksFault_eq d2 (show ((a.length : Nat) : Int) ≤ 9223372036854775807 by omega), Option.bind_some, decide_true, Bool.not_true, cond_false]
  have x5 : z220 a b (or0 (checkM a) (checkM b)) = some (me, m) := by
    unfold z220
    by_cases hz : or0 (checkM a) (checkM b) = 0
    · simp [hz, m4 hz]
    · obtain ⟨u1, u2⟩ := m3 hz
      simp [hz, u1, u2]
  have x6 : z224 wr (or0 e (cond (keyB d) 0 5)) m me (or0 e (cond (keyB d) 0 5)) wr me m = some true := by
    unfold z224
    simp only [decide_true, cond_true, mequal_self (show ((m.length : Nat) : Int) ≤ 9223372036854775807 by omega), versioned_eq, Option.bind_some]
  simp only [w1', m1, p2', x3, Option.bind_some, cond_false, w2, MarksFault_eq d2 (show ((a.length : Nat) : Int) ≤ 9223372036854775807 by omega), MarksFault_eq g1 (show ((b.length : Nat) : Int) ≤ 9223372036854775807 by omega), errs_first, first2, x5, x6]
  exact .some rfl
end Go.Eng

