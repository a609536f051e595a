/-
Numbers in sevens are read back.
-/
import Derived.Test.YtjfpceigbgnjgaaPlainU
import Derived.Test.YtjfpceigbgnjgaaPlainG
namespace Go.Eng
open Go
set_option linter.unusedVariables false
set_option linter.unusedSimpArgs false

theorem EqualI_eq {a b : List Int} (ha : (a.length : Int) ≤ 9223372036854775807) : slices_Equal_byte_byte a b = some (decide (a = b)) := by
  by_cases hab : a = b
  · subst hab; rw [EqualI_self ha]; simp
  unfold slices_Equal_byte_byte
  by_cases hl : a.length = b.length
  · have hl' : (a.length : Int) = b.length := by omega
    simp only [hl', decide_true, Bool.not_true, cond_false]
    rw [range_loop (l := a) (fun (i : Nat) (x : Int) => if b[i]? = some x then none else some (.inr ())) (.inl ()) ha]
    · have : ∃ (i : Nat) (x : Int), a[i]? = some x ∧ b[i]? ≠ some x := by
        refine Classical.byContradiction fun hn => hab ?_
        refine List.ext_getElem hl fun i h1 h2 => ?_
        refine Classical.byContradiction fun hc => hn ⟨i, a[i], List.getElem?_eq_getElem h1, ?_⟩
        rw [List.getElem?_eq_getElem h2]
        intro e; injection e with e; exact hc e.symm
      obtain ⟨i, x, h1, h2⟩ := this
      cases hs : scan (fun (i : Nat) (x : Int) => if b[i]? = some x then none else some (.inr () : Unit ⊕ Unit)) 0 a with
      | none =>
        have := scan_none.1 hs i x h1
        simp [h2] at this
      | some r =>
        obtain ⟨j, y, h3, h4⟩ := scan_some hs
        by_cases h5 : b[0 + j]? = some y
        · rw [if_pos h5] at h4; cases h4
        · rw [if_neg h5] at h4
          injection h4 with h4
          subst h4
          simp [hab]
    · intro i hi
      unfold slices_Equal_byte_byte_x1
      have : ((i : Int) < a.length) := by omega
      simp only [this, decide_true, cond_true, at_nat hi, at_nat (show i < b.length by omega), Option.bind_some]
      rw [List.getElem?_eq_getElem (show i < b.length by omega)]
      by_cases he : a[i] = b[i]
      · simp [he]
      · have he' : ¬ b[i] = a[i] := fun h => he h.symm
        simp [he, he']
    · unfold slices_Equal_byte_byte_x1; simp
  · have hl' : ¬ (a.length : Int) = b.length := by omega
    simp [hl', hab]

theorem sub_tail {b : List Int} {i : Nat} (h : i + 1 ≤ b.length) : sub? b ((i : Int) + 1) (b.length : Int) = some (b.drop (i + 1)) := by
  unfold sub?
  rw [if_pos (by omega)]
  simp
theorem p7 {i : Nat} (h : i ≤ 8) : 2 ^ (7 * i) ≤ 72057594037927936 := by
  have : 2 ^ (7 * i) ≤ 2 ^ 56 := Nat.pow_le_pow_right (by decide) (by omega)
  exact this
theorem p49 {i : Nat} (h : i ≤ 7) : 2 ^ (7 * i) ≤ 562949953421312 := by
  have : 2 ^ (7 * i) ≤ 2 ^ 49 := Nat.pow_le_pow_right (by decide) (by omega)
  exact this
theorem shl7 {m i : Nat} (hm : m < 128) (hi : i ≤ 7) : ishl .u64 (m : Int) (7 * (i : Int)) = ((2 ^ (7 * i) * m : Nat) : Int) ∧ ishl .i64 (m : Int) (7 * (i : Int)) = ((2 ^ (7 * i) * m : Nat) : Int) := by
  have e1 : min (7 * (i : Int)).toNat (IntKind.bits .u64) = 7 * i := by
    show min (7 * (i : Int)).toNat 64 = 7 * i
    omega
  have e2 : min (7 * (i : Int)).toNat (IntKind.bits .i64) = 7 * i := by
    show min (7 * (i : Int)).toNat 64 = 7 * i
    omega
  have h7 : 2 ^ (7 * i) ≤ 562949953421312 := p49 hi
  have hb : 2 ^ (7 * i) * m ≤ 562949953421312 * 127 := Nat.mul_le_mul h7 (by omega)
  have ec : (m : Int) * 2 ^ (7 * i) = ((2 ^ (7 * i) * m : Nat) : Int) := by
    rw [Int.mul_comm, Int.natCast_mul, Int.natCast_pow]; rfl
  unfold ishl
  rw [e1, e2, ec]
  exact ⟨wrapU64 (by omega) (by omega), wrap64 (by omega) (by omega)⟩

/-- What a step of the reading answers. -/
def stepV (qb : List Int) (acc i : Nat) (c : Int) : (Int × Int) ⊕ (Unit ⊕ (Int × (List Int) × Bool)) :=
  if c < 128 then .inr (.inr (((acc + 2 ^ (7 * i) * (c % 128).toNat : Nat) : Int), qb.drop (i + 1), true)) else .inl (((acc + 2 ^ (7 * i) * (c % 128).toNat : Nat) : Int), (i : Int) + 1)
theorem read_step {qb : List Int} {acc i : Nat} (hi : i ≤ 7) (hi2 : i < qb.length) (ha : acc < 2 ^ (7 * i)) (hc : 0 ≤ qb[i] ∧ qb[i] < 256) :
    series_unseven_x1 qb (acc, i) = some (stepV qb acc i qb[i]) ∧ fleetref2_takeSeven_x1 qb (acc, i) = some (stepV qb acc i qb[i]) := by
  have hi2' : (i : Int) < qb.length := by omega
  have hm : (qb[i] % 128).toNat < 128 := by omega
  have em : (((qb[i] % 128).toNat : Nat) : Int) = qb[i] % 128 := by omega
  have e1 : ibits .and .u8 qb[i] 127 = (((qb[i] % 128).toNat : Nat) : Int) := by rw [and8 hc.1 hc.2, em]
  have e2 : IntKind.wrap .u64 (((qb[i] % 128).toNat : Nat) : Int) = (((qb[i] % 128).toNat : Nat) : Int) := wrapU64 (by omega) (by omega)
  have e2' : IntKind.wrap .i64 (((qb[i] % 128).toNat : Nat) : Int) = (((qb[i] % 128).toNat : Nat) : Int) := wrap64 (by omega) (by omega)
  have e3 : IntKind.wrap .i64 (7 * (i : Int)) = 7 * (i : Int) := wrap64 (by omega) (by omega)
  have e4 := shl7 hm hi
  have e5 : IntKind.wrap .i64 ((i : Int) + 1) = (i : Int) + 1 := wrap64 (by omega) (by omega)
  have h7 : 2 ^ (7 * i) ≤ 562949953421312 := p49 hi
  have hb : 2 ^ (7 * i) * (qb[i] % 128).toNat ≤ 562949953421312 * 127 := Nat.mul_le_mul h7 (by omega)
  have e6 := or64 acc (qb[i] % 128).toNat (7 * i) ha (by omega)
  have e7 : IntKind.wrap .i64 ((acc : Int) + ((2 ^ (7 * i) * (qb[i] % 128).toNat : Nat) : Int)) = ((2 ^ (7 * i) * (qb[i] % 128).toNat + acc : Nat) : Int) := by
    rw [wrap64 (by omega) (by omega)]; omega
  have n9 : ¬ (i : Int) = 9 := by omega
  have n7 : ¬ (7 : Int) < i := by omega
  have g : (0 : Int) ≤ 7 * i := by omega
  unfold series_unseven_x1 fleetref2_takeSeven_x1 stepV
  rw [Nat.add_comm acc]
  simp only [hi2', n9, n7, decide_true, decide_false, cond_true, cond_false, at_nat hi2, Option.bind_some, e1, e2, e2', e3, e4.1, e4.2, e5, e6, e7, gd_true (show decide ((0 : Int) ≤ 7 * i) = true by simp [g]), sub_tail (show i + 1 ≤ qb.length by omega)]
  by_cases h : qb[i] < 128 <;> simp [h]

theorem read_go {qb : List Int} (f : Int × Int → Option ((Int × Int) ⊕ (Unit ⊕ (Int × (List Int) × Bool))))
    (hf : ∀ (acc i : Nat) (hi2 : i < qb.length), i ≤ 7 → acc < 2 ^ (7 * i) → 0 ≤ qb[i] ∧ qb[i] < 256 → f (acc, i) = some (stepV qb acc i qb[i])) :
    ∀ (k i acc : Nat) (n : Int) (pre rest : List Int), qb = pre ++ (sev k n ++ rest) → pre.length = i → i + k ≤ 7 → 0 ≤ n → n < cap7 k → acc < 2 ^ (7 * i) → loopO f (acc, i) = some (.inr (((acc : Int) + 2 ^ (7 * i) * n), rest, true)) := by
  intro k
  induction k with
  | zero =>
    intro i acc n pre rest hq hp hik h0 h1 ha
    have h1' : n < 128 := h1
    have hil : i < qb.length := by rw [hq]; simp [sev]; omega
    have e : qb[i] = n := by simp [hq, sev, ← hp]
    rw [loopO_eq, hf acc i hil (by omega) ha (by rw [e]; omega), e]
    have ed : qb.drop (i + 1) = rest := by rw [hq, ← hp]; simp [sev]
    have em : n % 128 = n := by omega
    simp only [stepV, if_pos h1', Option.bind_some, ed, em]
    congr 4
    rw [Int.natCast_add, Int.natCast_mul, Int.toNat_of_nonneg h0]
    simp
  | succ k ih =>
    intro i acc n pre rest hq hp hik h0 h1 ha
    by_cases hn : n < 128
    · have hs : sev (k + 1) n = [n] := by simp [sev, hn]
      rw [hs] at hq
      have hil : i < qb.length := by rw [hq]; simp; omega
      have e : qb[i] = n := by simp [hq, ← hp]
      rw [loopO_eq, hf acc i hil (by omega) ha (by rw [e]; omega), e]
      have ed : qb.drop (i + 1) = rest := by rw [hq, ← hp]; simp
      have em : n % 128 = n := by omega
      simp only [stepV, if_pos hn, Option.bind_some, ed, em]
      congr 4
      rw [Int.natCast_add, Int.natCast_mul, Int.toNat_of_nonneg h0]
      simp
    · have hs : sev (k + 1) n = (n % 128 + 128) :: sev k (n / 128) := by simp [sev, hn]
      rw [hs] at hq
      have hil : i < qb.length := by rw [hq]; simp; omega
      have e : qb[i] = n % 128 + 128 := by simp [hq, ← hp]
      rw [loopO_eq, hf acc i hil (by omega) ha (by rw [e]; omega), e]
      have h1' : n < 128 * cap7 k := h1
      have em : (n % 128 + 128) % 128 = n % 128 := by omega
      have hnc : ¬ n % 128 + 128 < 128 := by omega
      simp only [stepV, if_neg hnc, Option.bind_some, em]
      have hp2 : 2 ^ (7 * (i + 1)) = 2 ^ (7 * i) * 128 := by rw [show 7 * (i + 1) = 7 * i + 7 by omega, Nat.pow_add]
      have hlt : acc + 2 ^ (7 * i) * (n % 128).toNat < 2 ^ (7 * (i + 1)) := by
        have : 2 ^ (7 * i) * (n % 128).toNat ≤ 2 ^ (7 * i) * 127 := Nat.mul_le_mul_left _ (by omega)
        omega
      have := ih (i + 1) (acc + 2 ^ (7 * i) * (n % 128).toNat) (n / 128) (pre ++ [n % 128 + 128]) rest (by rw [hq]; simp) (by simp; omega) (by omega) (by omega) (by omega) hlt
      rw [show ((i + 1 : Nat) : Int) = (i : Int) + 1 by omega] at this
      rw [this]
      congr 3
      rw [Int.natCast_add, Int.natCast_mul, Int.toNat_of_nonneg (show 0 ≤ n % 128 by omega)]
      have hp3 : (2 : Int) ^ (7 * (i + 1)) = 2 ^ (7 * i) * 128 := by rw [show 7 * (i + 1) = 7 * i + 7 by omega, Int.pow_add]; rfl
      rw [hp3, Int.natCast_pow]
      have : n = n % 128 + 128 * (n / 128) := by omega
      conv => rhs; rw [this]
      rw [Int.mul_add, Int.mul_assoc, Int.add_assoc]; rfl
theorem sev_stab : ∀ {k : Nat} {n : Int}, n < cap7 k → ∀ j, k ≤ j → sev j n = sev k n
  | 0, n, h, 0, _ => rfl
  | 0, n, h, j + 1, _ => by
    have h' : n < 128 := h
    simp [sev, h']
  | k + 1, n, h, 0, hj => by omega
  | k + 1, n, h, j + 1, hj => by
    have h' : n < 128 * cap7 k := h
    simp only [sev]
    rw [sev_stab (show n / 128 < cap7 k by omega) j (by omega)]
theorem cap7_6 : cap7 6 = 562949953421312 := by decide
theorem read_sv {n : Int} (h0 : 0 ≤ n) (h1 : n < 562949953421312) (rest : List Int) : series_unseven (sev 8 n ++ rest) = some (n, rest, true) ∧ fleetref2_takeSeven (sev 8 n ++ rest) = some (n, rest, true) := by
  have hs : sev 8 n = sev 6 n := sev_stab (by rw [cap7_6]; exact h1) 8 (by omega)
  rw [hs]
  have r1 := read_go (qb := sev 6 n ++ rest) (series_unseven_x1 (sev 6 n ++ rest)) (fun acc i h2 h3 h4 h5 => (read_step h3 h2 h4 h5).1) 6 0 0 n [] rest (by simp) rfl (by omega) h0 (by rw [cap7_6]; exact h1) (by simp)
  have r2 := read_go (qb := sev 6 n ++ rest) (fleetref2_takeSeven_x1 (sev 6 n ++ rest)) (fun acc i h2 h3 h4 h5 => (read_step h3 h2 h4 h5).2) 6 0 0 n [] rest (by simp) rfl (by omega) h0 (by rw [cap7_6]; exact h1) (by simp)
  unfold series_unseven fleetref2_takeSeven
  have z : ((0 : Nat) : Int) = 0 := rfl
  rw [z] at r1 r2
  rw [r1, r2]
  simp

/-! ### Total -/
theorem unseven_ok (b : List Int) (hb : b.length ≤ 1000000) : Ok (series_unseven b) (fun r => r.2.1.length ≤ b.length) := by
  unfold series_unseven
  refine Ok.bind (P := fun x => match x with | .inl _ => True | .inr r => r.2.1.length ≤ b.length) ?_ fun x hx => ?_
  · refine loop_ok (fun s : Int × Int => 0 ≤ s.2 ∧ s.2 ≤ 9) (fun s => (10 - s.2).toNat) ?_ ⟨by simp, by simp⟩
    intro ⟨n, x⟩ ⟨h0, h1⟩
    simp only at h0 h1
    unfold series_unseven_x1
    refine .cond (fun h => ?_) (fun _ => .some trivial)
    have hx : x < b.length := by simpa using h
    refine (at_mem h0 hx).bind fun c _ => ?_
    refine .cond (fun _ => .some (by simp)) (fun h9 => ?_)
    have h9' : ¬ x = 9 := by simpa using h9
    have e3 : IntKind.wrap .i64 (7 * x) = 7 * x := wrap64 (by omega) (by omega)
    have e5 : IntKind.wrap .i64 (x + 1) = x + 1 := wrap64 (by omega) (by omega)
    refine .gd (by rw [e3]; simp; omega) (.cond (fun _ => ?_) fun _ => .some ⟨⟨by simp only [e5]; omega, by simp only [e5]; omega⟩, by simp only [e5]; omega⟩)
    have es : sub? b (x + 1) b.length = some (b.drop (x.toNat + 1)) := by
      have := sub_tail (b := b) (i := x.toNat) (by omega)
      rw [show ((x.toNat : Nat) : Int) = x by omega] at this
      exact this
    rw [e5, es]
    exact .some (by simp)
  · cases x with
    | inl _ => exact .some (by simp)
    | inr r => exact .some hx
theorem takeSeven_ok (b : List Int) (hb : b.length ≤ 1000000) : Ok (fleetref2_takeSeven b) (fun r => r.2.1.length ≤ b.length) := by
  unfold fleetref2_takeSeven
  refine Ok.bind (P := fun x => match x with | .inl _ => True | .inr r => r.2.1.length ≤ b.length) ?_ fun x hx => ?_
  · refine loop_ok (fun s : Int × Int => 0 ≤ s.2 ∧ s.2 ≤ 8) (fun s => (10 - s.2).toNat) ?_ ⟨by simp, by simp⟩
    intro ⟨n, x⟩ ⟨h0, h1⟩
    simp only at h0 h1
    unfold fleetref2_takeSeven_x1
    refine .cond (fun h => ?_) (fun _ => .some trivial)
    have hx : x < b.length := by simpa using h
    refine (at_mem h0 hx).bind fun c _ => ?_
    refine .cond (fun _ => .some (by simp)) (fun h9 => ?_)
    have h9' : ¬ 7 < x := by simpa using h9
    have e3 : IntKind.wrap .i64 (7 * x) = 7 * x := wrap64 (by omega) (by omega)
    have e5 : IntKind.wrap .i64 (x + 1) = x + 1 := wrap64 (by omega) (by omega)
    refine .gd (by rw [e3]; simp; omega) (.cond (fun _ => ?_) fun _ => .some ⟨⟨by simp only [e5]; omega, by simp only [e5]; omega⟩, by simp only [e5]; omega⟩)
    have es : sub? b (x + 1) b.length = some (b.drop (x.toNat + 1)) := by
      have := sub_tail (b := b) (i := x.toNat) (by omega)
      rw [show ((x.toNat : Nat) : Int) = x by omega] at this
      exact this
    rw [e5, es]
    exact .some (by simp)
  · cases x with
    | inl _ => exact .some (by simp)
    | inr r => exact .some hx
end Go.Eng
