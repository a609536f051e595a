/-
What the plain functions of the law CellsNamed answer, part 2.
-/
import Derived.Test.YtgjgjnfglkdgaaaDoorPlainA
import Derived.Lib.SlTrimSet
/-
The law CellsNest: the cell of a spot, its box, the cells of a fence.
-/
namespace Go.Eng
open Go Geo
set_option linter.unusedVariables false
set_option linter.unusedSimpArgs false

/-! ### The name of a spot's cell -/
def cdig (u v H : Int) : UInt8 := UInt8.ofNat (48 + u / H % 2 + 2 * (v / H % 2)).toNat
def ckey (u v : Int) : Nat → List UInt8
  | 0 => []
  | n + 1 => ckey u v n ++ [cdig u v (2 ^ (15 - (n + 1)))]
theorem ckey_len (u v : Int) : ∀ n, (ckey u v n).length = n
  | 0 => rfl
  | n + 1 => by rw [ckey, List.length_append, ckey_len u v n]; rfl
theorem Cell_eq {s : api_Spot} (hx : -10000 ≤ s.X ∧ s.X ≤ 10000) (hy : -10000 ≤ s.Y ∧ s.Y ≤ 10000) {n : Nat} (hn : n ≤ 15) : place_Cell s n = some (ckey (s.X + 16384) (s.Y + 16384) n, 0) := by
  unfold place_Cell
  have h1 : place_Cell_x1 s n = some false := by
    unfold place_Cell_x1
    have e1 : ¬ ((n : Int) < 0) := by omega
    have e2 : ¬ ((15 : Int) < n) := by omega
    simp [isSpot_eq, Out_eq, hx, hy, e1, e2]
  rw [h1]
  simp only [Option.bind_some, cond_false]
  have key : ∃ out : List Int, loopO (place_Cell_x2 s n) ([], 32768, 0) = some out ∧ out.map (fun n => UInt8.ofNat n.toNat) = ckey (s.X + 16384) (s.Y + 16384) n := by
    refine loop_ok (fun st : List Int × Int × Int => ∃ i : Nat, i ≤ n ∧ st.2.2 = (i : Int) ∧ st.2.1 = 2 ^ (15 - i) ∧ st.1.length = i ∧ st.1.map (fun n => UInt8.ofNat n.toNat) = ckey (s.X + 16384) (s.Y + 16384) i) (fun st => ((n : Int) - st.2.2).toNat) ?_ ⟨0, by omega, rfl, by decide, rfl, rfl⟩
    rintro ⟨out, long, x⟩ ⟨i, hi, rfl, rfl, h3, h4⟩
    simp only at h3 h4
    unfold place_Cell_x2
    refine .cond (fun hc => ?_) (fun hc => ?_)
    · have hc : (i : Int) < n := by simpa using hc
      have hp := pow_half (i := i) (by omega)
      have hq := pow_pos2 (15 - (i + 1))
      have hle : (2 : Int) ^ (15 - (i + 1)) ≤ 16384 := by
        have : (2 : Int) ^ (15 - (i + 1)) ≤ 2 ^ 14 := by
          have h14 : (2 : Nat) ^ (15 - (i + 1)) ≤ 2 ^ 14 := Nat.pow_le_pow_right (by omega) (by omega)
          exact_mod_cast h14
        simpa using this
      have wi : IntKind.wrap .i64 ((i : Int) + 1) = ((i + 1 : Nat) : Int) := by rw [wrap64 (by omega) (by omega)]; omega
      have hkey : ckey (s.X + 16384) (s.Y + 16384) (i + 1) = ckey (s.X + 16384) (s.Y + 16384) i ++ [cdig (s.X + 16384) (s.Y + 16384) (2 ^ (15 - (i + 1)))] := rfl
      rw [hp]
      obtain ⟨H, hH⟩ : ∃ H : Int, H = 2 ^ (15 - (i + 1)) := ⟨_, rfl⟩
      rw [← hH] at hp hq hle hkey ⊢
      have t1 : (2 * H).tdiv 2 = H := by rw [td2 (by omega)]; omega
      have w1 : IntKind.wrap .i64 H = H := wrap64 (by omega) (by omega)
      have ux : IntKind.wrap .i64 (s.X - -16384) = s.X + 16384 := by rw [wrap64 (by omega) (by omega)]; omega
      have uy : IntKind.wrap .i64 (s.Y - -16384) = s.Y + 16384 := by rw [wrap64 (by omega) (by omega)]; omega
      simp only [t1, w1, ux, uy, wi]
      have hu : 0 ≤ s.X + 16384 := by omega
      have hv : 0 ≤ s.Y + 16384 := by omega
      rw [Int.tdiv_eq_ediv_of_nonneg hu, Int.tdiv_eq_ediv_of_nonneg hv]
      have a1 := Int.ediv_nonneg hu (Int.le_of_lt hq)
      have a2 := Int.ediv_le_self H hu
      have b1 := Int.ediv_nonneg hv (Int.le_of_lt hq)
      have b2 := Int.ediv_le_self H hv
      unfold cdig at hkey
      generalize (s.X + 16384) / H = a at *
      generalize (s.Y + 16384) / H = b at *
      have w2 : IntKind.wrap .i64 a = a := wrap64 (by omega) (by omega)
      have w3 : IntKind.wrap .i64 b = b := wrap64 (by omega) (by omega)
      rw [w2, w3, tm2 a1, tm2 b1]
      have w4 : IntKind.wrap .u8 (a % 2) = a % 2 := wrapu8 (by omega)
      have w5 : IntKind.wrap .u8 (b % 2) = b % 2 := wrapu8 (by omega)
      have w6 : IntKind.wrap .u8 (48 + a % 2) = 48 + a % 2 := wrapu8 (by omega)
      have w7 : IntKind.wrap .u8 (2 * (b % 2)) = 2 * (b % 2) := wrapu8 (by omega)
      have w8 : IntKind.wrap .u8 (48 + a % 2 + 2 * (b % 2)) = 48 + a % 2 + 2 * (b % 2) := wrapu8 (by omega)
      rw [w4, w5, w6, w7, w8]
      refine .gd (by simp; omega) (.gd (ble_lim (by simp; omega)) (.some ⟨⟨i + 1, by omega, rfl, hH, by simp [h3], ?_⟩, by simp only; omega⟩))
      rw [hkey, List.map_append, h4]
      rfl
    · have hc : ¬ (i : Int) < n := by simpa using hc
      have : i = n := by omega
      subst this
      exact .some h4
  obtain ⟨out, k1, k2⟩ := key
  rw [k1]
  simp only [Option.bind_some, k2]

/-! ### The box of a spot's cell -/
theorem trim_digits {ks : List UInt8} (hd : Dig ks) : Lib.trimS ks [48, 49, 50, 51] = [] := by
  unfold Lib.trimS
  have hc : ∀ b : UInt8, 48 ≤ b.toNat ∧ b.toNat ≤ 51 → ([48, 49, 50, 51] : List UInt8).contains b = true := by
    intro b hb
    have : b = 48 ∨ b = 49 ∨ b = 50 ∨ b = 51 := by
      have h : b.toNat = (48 : UInt8).toNat ∨ b.toNat = (49 : UInt8).toNat ∨ b.toNat = (50 : UInt8).toNat ∨ b.toNat = (51 : UInt8).toNat := by
        show b.toNat = 48 ∨ b.toNat = 49 ∨ b.toNat = 50 ∨ b.toNat = 51
        omega
      rcases h with h | h | h | h
      · exact .inl (UInt8.toNat_inj.1 h)
      · exact .inr (.inl (UInt8.toNat_inj.1 h))
      · exact .inr (.inr (.inl (UInt8.toNat_inj.1 h)))
      · exact .inr (.inr (.inr (UInt8.toNat_inj.1 h)))
    rcases this with rfl | rfl | rfl | rfl <;> rfl
  rw [Lib.trimRightS_take ks _ 0 (by omega) (fun j b _ hb => hc b (hd b (List.mem_of_getElem? hb))) (fun b h _ => by omega)]
  rfl
/-! ### The cells of a fence are in order -/
/-! ### The cell of a spot in a fence -/
theorem sc_one (l : List Pt) : l.map (sc 1) = l := by
  have : sc 1 = id := by funext c; unfold sc; simp
  rw [this, List.map_id]
end Go.Eng

/-
The law CellsNamed: the reference's names, boxes and lists of cells are the code's.
-/
namespace Go.Eng
open Go Geo
open scoped Classical
set_option linter.unusedVariables false
set_option linter.unusedSimpArgs false

/-! ### Small checks -/
theorem lwhen_eq (b : Bool) (e : Int) : fleetlaw2_when b e = some (cond b e 0) := by unfold fleetlaw2_when; cases b <;> rfl
theorem lerrs2 (a b : Int) : fleetlaw2_errs [a, b] = some (or0 a b) := by
  unfold fleetlaw2_errs or0
  by_cases ha : a = 0
  · by_cases hb : b = 0
    · subst ha; subst hb
      have : loopO (fleetlaw2_errs_x1 [0, 0]) 0 = some (.inl ()) := by kernel_rfl
      rw [this]; rfl
    · subst ha
      have s1 : fleetlaw2_errs_x1 [0, b] 0 = some (.inl 1) := rfl
      have s2 : fleetlaw2_errs_x1 [0, b] 1 = some (.inr (.inr b)) := by
        show (cond (!decide (b = 0)) (some (Sum.inr (Sum.inr b))) _ : Option (Int ⊕ (Unit ⊕ Int))) = _
        simp [hb]
      rw [loop_in s1, loop_out s2]
      simp
  · have s1 : fleetlaw2_errs_x1 [a, b] 0 = some (.inr (.inr a)) := by
      show (cond (!decide (a = 0)) (some (Sum.inr (Sum.inr a))) _ : Option (Int ⊕ (Unit ⊕ Int))) = _
      simp [ha]
    rw [loop_out s1]
    simp [ha]
theorem strEqual_self {l : List (List UInt8)} (hl : (l.length : Int) ≤ 9223372036854775807) : slices_Equal_string_string l l = some true := by
  unfold slices_Equal_string_string
  simp only [decide_true, Bool.not_true, cond_false]
  rw [range_loop (l := l) (fun _ _ => none) (.inl ()) hl]
  · have : ∀ (k : Nat) (m : List (List UInt8)), scan (fun (_ : Nat) (_ : List UInt8) => (none : Option (Unit ⊕ Unit))) k m = none := fun k m => scan_none.2 fun _ _ _ => rfl
    rw [this]; rfl
  · intro i hi
    unfold slices_Equal_string_string_x1
    have hc : (i : Int) < l.length := by omega
    simp only [hc, decide_true, cond_true, at_nat hi, Option.bind_some, Bool.not_true, cond_false]
  · unfold slices_Equal_string_string_x1; simp

/-! ### Names of cells -/
theorem and1 {a : Int} (h0 : 0 ≤ a) (h : a < 4294967296) : ibits .and .i64 a 1 = a % 2 := by
  unfold ibits
  have e : (BitVec.ofInt (IntKind.bits .i64) a &&& BitVec.ofInt (IntKind.bits .i64) 1).toNat = a.toNat % 2 := by
    rw [show IntKind.bits .i64 = 64 from rfl, BitVec.toNat_and]
    have e1 : (BitVec.ofInt 64 a).toNat = a.toNat := by
      rw [BitVec.toNat_ofInt]; omega
    have e2 : (BitVec.ofInt 64 1).toNat = 1 := by decide
    rw [e1, e2]
    exact Nat.and_two_pow_sub_one_eq_mod a.toNat 1
  simp only [e]
  rw [wrap64 (by omega) (by omega)]
  omega
theorem itoa_dig (u v H : Int) : Lib.itoa (2 * (v / H % 2) + u / H % 2) = [cdig u v H] := by
  have h1 : u / H % 2 = 0 ∨ u / H % 2 = 1 := by omega
  have h2 : v / H % 2 = 0 ∨ v / H % 2 = 1 := by omega
  have i0 : Lib.itoa 0 = [48] := by kernel_rfl
  have i1 : Lib.itoa 1 = [49] := by kernel_rfl
  have i2 : Lib.itoa 2 = [50] := by kernel_rfl
  have i3 : Lib.itoa 3 = [51] := by kernel_rfl
  unfold cdig
  rcases h1 with h1 | h1 <;> rcases h2 with h2 | h2 <;> rw [h1, h2]
  · exact i0
  · exact i2
  · exact i1
  · exact i3
theorem CellOf_eq {s : api_Spot} (hx : -10000 ≤ s.X ∧ s.X ≤ 10000) (hy : -10000 ≤ s.Y ∧ s.Y ≤ 10000) {n : Nat} (hn : n ≤ 15) : fleetref2_CellOf s n = some (ckey (s.X + 16384) (s.Y + 16384) n) := by
  unfold fleetref2_CellOf
  have key : ∃ out : List UInt8, loopO (fleetref2_CellOf_x1 s n) ([], 0) = some out ∧ out = ckey (s.X + 16384) (s.Y + 16384) n := by
    refine loop_ok (fun st : List UInt8 × Int => ∃ i : Nat, i ≤ n ∧ st.2 = (i : Int) ∧ st.1 = ckey (s.X + 16384) (s.Y + 16384) i) (fun st => ((n : Int) - st.2).toNat) ?_ ⟨0, by omega, rfl, rfl⟩
    rintro ⟨out, x⟩ ⟨i, hi, rfl, h3⟩
    simp only at h3
    unfold fleetref2_CellOf_x1
    refine .cond (fun hc => ?_) (fun hc => ?_)
    · have hc : (i : Int) < n := by simpa using hc
      have wi : IntKind.wrap .i64 ((i : Int) + 1) = ((i + 1 : Nat) : Int) := by rw [wrap64 (by omega) (by omega)]; omega
      have w14 : IntKind.wrap .i64 ((14 : Int) - i) = ((15 - (i + 1) : Nat) : Int) := by rw [wrap64 (by omega) (by omega)]; omega
      have ux : IntKind.wrap .i64 (s.X + 16384) = s.X + 16384 := wrap64 (by omega) (by omega)
      have uy : IntKind.wrap .i64 (s.Y + 16384) = s.Y + 16384 := wrap64 (by omega) (by omega)
      have hq := pow_pos2 (15 - (i + 1))
      have hkey : ckey (s.X + 16384) (s.Y + 16384) (i + 1) = ckey (s.X + 16384) (s.Y + 16384) i ++ [cdig (s.X + 16384) (s.Y + 16384) (2 ^ (15 - (i + 1)))] := rfl
      have hu : 0 ≤ s.X + 16384 := by omega
      have hv : 0 ≤ s.Y + 16384 := by omega
      have sh : ∀ u : Int, 0 ≤ u → ishr .i64 u ((15 - (i + 1) : Nat) : Int) = u / 2 ^ (15 - (i + 1)) := by
        intro u hu
        unfold ishr
        rw [Int.toNat_natCast, show min (15 - (i + 1)) (IntKind.bits .i64) = 15 - (i + 1) from Nat.min_eq_left (by show _ ≤ 64; omega)]
        exact Int.fdiv_eq_ediv_of_nonneg u (Int.le_of_lt hq)
      simp only [w14, ux, uy, wi, sh _ hu, sh _ hv]
      have a1 := Int.ediv_nonneg hu (Int.le_of_lt hq)
      have a2 := Int.ediv_le_self (2 ^ (15 - (i + 1))) hu
      have b1 := Int.ediv_nonneg hv (Int.le_of_lt hq)
      have b2 := Int.ediv_le_self (2 ^ (15 - (i + 1))) hv
      rw [and1 a1 (by omega), and1 b1 (by omega)]
      have hi := itoa_dig (s.X + 16384) (s.Y + 16384) (2 ^ (15 - (i + 1)))
      have w1 : IntKind.wrap .i64 (2 * ((s.Y + 16384) / 2 ^ (15 - (i + 1)) % 2)) = 2 * ((s.Y + 16384) / 2 ^ (15 - (i + 1)) % 2) := wrap64 (by omega) (by omega)
      have w2 : IntKind.wrap .i64 (2 * ((s.Y + 16384) / 2 ^ (15 - (i + 1)) % 2) + (s.X + 16384) / 2 ^ (15 - (i + 1)) % 2) = 2 * ((s.Y + 16384) / 2 ^ (15 - (i + 1)) % 2) + (s.X + 16384) / 2 ^ (15 - (i + 1)) % 2 := wrap64 (by omega) (by omega)
      rw [w1, w2]
      refine .gd (by simp) ?_
      unfold strconv_Itoa
      rw [hi]
      have hg : (decide (-9223372036854775808 ≤ 2 * ((s.Y + 16384) / 2 ^ (15 - (i + 1)) % 2) + (s.X + 16384) / 2 ^ (15 - (i + 1)) % 2) && decide (2 * ((s.Y + 16384) / 2 ^ (15 - (i + 1)) % 2) + (s.X + 16384) / 2 ^ (15 - (i + 1)) % 2 ≤ 9223372036854775807)) = true := by
        simp only [Bool.and_eq_true, decide_eq_true_eq]; omega
      rw [gd_true hg]
      simp only [Option.bind_some]
      refine .gd (ble_lim (by rw [h3, ckey_len]; simp; omega)) (.some ⟨⟨i + 1, by omega, rfl, ?_⟩, by simp only; omega⟩)
      simp only
      rw [hkey, h3]
    · have hc : ¬ (i : Int) < n := by simpa using hc
      have : i = n := by omega
      subst this
      exact .some h3
  obtain ⟨out, k1, k2⟩ := key
  rw [k1, k2]
  rfl

/-! ### Boxes of names -/
theorem dw_all {α : Type} {p : α → Bool} : ∀ {l : List α}, (∀ x ∈ l.dropWhile p, p x = true) → ∀ x ∈ l, p x = true
  | [], _, x, h => by cases h
  | y :: l, h, x, hx => by
    rw [List.dropWhile_cons] at h
    by_cases hy : p y = true
    · rw [if_pos hy] at h
      rcases List.mem_cons.1 hx with rfl | hx
      · exact hy
      · exact dw_all h x hx
    · rw [if_neg hy] at h
      exact h x hx
theorem dw_nil {α : Type} {p : α → Bool} : ∀ {l : List α}, l.dropWhile p = [] → ∀ x ∈ l, p x = true := fun h => dw_all fun x hx => by rw [h] at hx; cases hx
theorem trim_nil {ks cs : List UInt8} (h : Lib.trimS ks cs = []) : ∀ k ∈ ks, cs.contains k = true := by
  unfold Lib.trimS Lib.trimLeftS at h
  have h1 := dw_nil h
  unfold Lib.trimRightS at h1
  intro k hk
  exact dw_all (p := fun x => cs.contains x) (l := ks.reverse) (fun x hx => h1 x (List.mem_reverse.2 hx)) k (List.mem_reverse.2 hk)
theorem dig_iff {ks : List UInt8} : Dig ks ↔ (ks.all fun c => ([48, 49, 50, 51] : List UInt8).contains c) = true := by
  rw [List.all_eq_true]
  constructor
  · intro h k hk
    have h := h k hk
    have : k = 48 ∨ k = 49 ∨ k = 50 ∨ k = 51 := by
      have h : k.toNat = (48 : UInt8).toNat ∨ k.toNat = (49 : UInt8).toNat ∨ k.toNat = (50 : UInt8).toNat ∨ k.toNat = (51 : UInt8).toNat := by
        show k.toNat = 48 ∨ k.toNat = 49 ∨ k.toNat = 50 ∨ k.toNat = 51
        omega
      rcases h with h | h | h | h
      · exact .inl (UInt8.toNat_inj.1 h)
      · exact .inr (.inl (UInt8.toNat_inj.1 h))
      · exact .inr (.inr (.inl (UInt8.toNat_inj.1 h)))
      · exact .inr (.inr (.inr (UInt8.toNat_inj.1 h)))
    rcases this with rfl | rfl | rfl | rfl <;> rfl
  · intro h k hk
    have h := h k hk
    simp only [List.contains_cons, List.contains_nil, Bool.or_false, Bool.or_eq_true, beq_iff_eq] at h
    rcases h with rfl | rfl | rfl | rfl <;> decide
theorem trim_empty : strings_Trim [] [48, 49, 50, 51] = some [] := by kernel_rfl
theorem CellBox_both {ks : List UInt8} (hl : ks.length ≤ 100) : place_CellBox ks = some (if ks.length ≤ 15 ∧ Dig ks then (⟨(cbox ks).1, (cbox ks).2.1⟩, (cbox ks).2.2, 0) else (⟨0, 0⟩, 0, 9)) := by
  unfold place_CellBox place_CellBox_x1
  by_cases h15 : ks.length ≤ 15
  · have h1 : ¬ (15 : Int) < ks.length := by omega
    have ht : ∃ t, strings_Trim_l ks [48, 49, 50, 51] = some t ∧ (t = [] ↔ Dig ks) := by
      unfold strings_Trim_l
      by_cases h0 : ks = []
      · subst h0
        refine ⟨[], ?_, ?_⟩
        · simp only [decide_true, cond_true]; exact trim_empty
        · exact ⟨fun _ k hk => (by cases hk), fun _ => rfl⟩
      · have h3 : (decide (2 ≤ ([48, 49, 50, 51] : List UInt8).length) && decide (0 < ks.length) && decide (ks.length ≤ 9223372036854775807) && decide (([48, 49, 50, 51] : List UInt8).length < 4294967281) && (([48, 49, 50, 51] : List UInt8).all fun b => decide (b.toNat < 128))) = true := by
          have e1 : decide (0 < ks.length) = true := by
            have : ks.length ≠ 0 := fun e => h0 (List.length_eq_zero_iff.1 e)
            simp; omega
          have e2 : decide (ks.length ≤ 9223372036854775807) = true := by simp; omega
          rw [e1, e2]
          decide
        refine ⟨Lib.trimS ks [48, 49, 50, 51], ?_, ?_, fun h => trim_digits h⟩
        · simp only [h0, decide_false, cond_false, gd_true h3]
        · intro h
          rw [dig_iff, List.all_eq_true]
          exact trim_nil h
    obtain ⟨t, t1, t2⟩ := ht
    simp only [h1, decide_false, cond_false, t1, Option.bind_some]
    by_cases hd : Dig ks
    · rw [if_pos ⟨h15, hd⟩, t2.2 hd]
      simp only [decide_true, Bool.not_true, cond_false, cellBox_eq hd h15, Option.bind_some]
    · rw [if_neg (fun h => hd h.2)]
      have : t ≠ [] := fun h => hd (t2.1 h)
      simp [this]
  · rw [if_neg (fun h => h15 h.1)]
    have h1 : (15 : Int) < ks.length := by omega
    simp [h1]
theorem CellFault_eq {ks : List UInt8} (hl : ks.length ≤ 100) : fleetref2_CellFault ks = some (if ks.length ≤ 15 ∧ Dig ks then 0 else 9) := by
  unfold fleetref2_CellFault fleetref2_CellFault_x1
  by_cases h15 : ks.length ≤ 15
  · have h1 : ¬ (15 : Int) < ks.length := by omega
    simp only [h1, decide_false, cond_false, only_eq ks _ (show (ks.length : Int) ≤ 9223372036854775807 by omega), Option.bind_some]
    by_cases hd : Dig ks
    · rw [if_pos ⟨h15, hd⟩, dig_iff.1 hd]; rfl
    · rw [if_neg (fun h => hd h.2)]
      have : (ks.all fun c => ([48, 49, 50, 51] : List UInt8).contains c) = false := by
        rw [Bool.eq_false_iff]; exact fun h => hd (dig_iff.2 h)
      rw [this]; rfl
  · rw [if_neg (fun h => h15 h.1)]
    have h1 : (15 : Int) < ks.length := by omega
    simp [h1]
theorem CellBoxOf_eq {ks : List UInt8} (hd : Dig ks) (hl : ks.length ≤ 15) : fleetref2_CellBoxOf ks = some (⟨(cbox ks).1, (cbox ks).2.1⟩, (cbox ks).2.2) := by
  unfold fleetref2_CellBoxOf
  have blen : (bytesD ks).length = ks.length := by unfold bytesD; simp
  have := fold_loop0 (l := ks) (f := fleetref2_CellBoxOf_x1 ks) (fun (b : Bx) i => (api_Spot.mk b.1 b.2.1, b.2.2, i)) cstep (fun b => (api_Spot.mk b.1 b.2.1, b.2.2)) CB (s0 := (-16384, -16384, 32768)) (by omega)
    (fun i hi b hb => by
      have hk := hd ks[i] (List.getElem_mem _)
      refine ⟨?_, cb_step hb hk⟩
      have h15 : i + 1 ≤ 15 := by omega
      obtain ⟨h1, h2, h3⟩ := hb (by omega)
      obtain ⟨g1, g2, g3⟩ := cb_step hb hk h15
      have hp := pow_half h15
      have hq := pow_pos2 (15 - (i + 1))
      have hat : at? (bytesD ks) (i : Int) = some (ks[i].toNat : Int) := by
        rw [at_nat (by rw [blen]; exact hi)]
        unfold bytesD
        simp
      unfold fleetref2_CellBoxOf_x1 fleetref2_CellBoxOf_x2
      have hlt : (i : Int) < ((bytesD ks).length : Int) := by rw [blen]; omega
      simp only [hlt, decide_true, cond_true, hat, Option.bind_some]
      have e : b.2.2 / 2 = 2 ^ (15 - (i + 1)) := by omega
      have e32 : (2 : Int) ^ (15 - (i + 1)) ≤ 16384 := by omega
      obtain ⟨H, hH⟩ : ∃ H : Int, H = 2 ^ (15 - (i + 1)) := ⟨_, rfl⟩
      rw [← hH] at e e32 hq hp g1
      unfold cstep at g1 g2 g3 ⊢
      simp only [e] at g1 g2 g3 ⊢
      obtain ⟨d, hdd⟩ : ∃ d : Int, d = (ks[i].toNat : Int) - 48 := ⟨_, rfl⟩
      have hd0 : (ks[i].toNat : Int) = d + 48 := by omega
      have hdr : d = 0 ∨ d = 1 ∨ d = 2 ∨ d = 3 := by omega
      rw [← hdd] at g2 g3 ⊢
      rw [hd0]
      have t1 : b.2.2.tdiv 2 = H := by rw [td2 (by omega)]; exact e
      have w1 : IntKind.wrap .i64 H = H := wrap64 (by omega) (by omega)
      have w2 : IntKind.wrap .i64 (2 * H) = 2 * H := wrap64 (by omega) (by omega)
      have w3 : IntKind.wrap .u8 d = d := wrapu8 (by omega)
      have w0 : d + 48 - 48 = d := by omega
      have w4 : IntKind.wrap .i64 d = d := wrap64 (by omega) (by omega)
      have n0 : (2 * H == 0) = false := by rw [beq_eq_false_iff_ne]; omega
      simp only [t1, w0, w1, w2, w3, w4, n0, Bool.not_false, gd, cond_true]
      have hm : (IntKind.wrap .i64 (H * d)).tmod (2 * H) = d % 2 * H := by
        rw [wrap64 (by rcases hdr with h | h | h | h <;> rw [h] <;> omega) (by rcases hdr with h | h | h | h <;> rw [h] <;> omega)]
        rw [Int.tmod_eq_emod_of_nonneg (by rcases hdr with h | h | h | h <;> rw [h] <;> omega)]
        rcases hdr with h | h | h | h <;> subst h
        · simp
        · rw [show H * 1 = H by omega, Int.emod_eq_of_lt (by omega) (by omega)]; omega
        · rw [show H * 2 = 2 * H by omega, Int.emod_self]; omega
        · rw [show H * 3 = H + 2 * H by omega, Int.add_emod_right, Int.emod_eq_of_lt (by omega) (by omega)]; omega
      rw [hm]
      have hd1 : d % 2 = 0 ∨ d % 2 = 1 := by omega
      rw [wrap64 (n := b.1 + d % 2 * H) (by omega) (by omega)]
      by_cases h50 : 2 ≤ d
      · have h5 : (50 : Int) ≤ d + 48 := by omega
        have hdv : d / 2 = 1 := by omega
        rw [hdv] at g3 ⊢
        simp only [h5, decide_true, cond_true, Option.bind_some]
        rw [wrap64 (n := b.2.1 + H) (by omega) (by omega), show (1 : Int) * H = H by omega]
      · have h5 : ¬ (50 : Int) ≤ d + 48 := by omega
        have hdv : d / 2 = 0 := by omega
        rw [hdv]
        simp only [h5, decide_false, cond_false, Option.bind_some]
        rw [show b.2.1 + 0 * H = b.2.1 by omega])
    (fun b _ => by unfold fleetref2_CellBoxOf_x1; simp [blen]) cb_zero
  have h1 := this.1
  simp only at h1
  rw [h1]
  rfl

/-! ### Do two fences meet? (the reference) -/
theorem redge_at {l : List api_Spot} (hl : (l.length : Int) ≤ 1000000) {i : Nat} (h : i < l.length) : fleetref2_edge l (i : Int) = some ((ring l)[i]'(by rw [ring_len]; exact h)) := by
  obtain ⟨a1, a2, a3⟩ := edge_at hl h
  unfold fleetref2_edge
  simp only [a1, a2, gd_true a3, Option.bind_some]
theorem meet_inner {m : List api_Spot} (hl : m.length ≤ 200) (hb : ∀ s ∈ m, InB s) {a b : api_Spot} (ha : InB a) (hb' : InB b) :
    loopO (fleetref2_MeetOf_x2 m a b) 0 = some (cond ((ring m).any fun f => meB (a, b) f) (.inr ()) (.inl ())) := by
  have hlen := ring_len m
  rw [range_loop (l := ring m) (fun _ f => cond (meB (a, b) f) (some (.inr ())) none) (.inl ()) (by omega), scan_any]
  · intro i hi
    have hi' : i < m.length := by omega
    have hx := inb_ring hb (List.getElem_mem hi)
    unfold fleetref2_MeetOf_x2
    rw [redge_at (by omega) hi']
    generalize (ring m)[i] = x at hx
    obtain ⟨c, d⟩ := x
    have h : (i : Int) < m.length := by omega
    simp only [h, decide_true, cond_true, Option.bind_some, touches_eq ha hb' hx.1 hx.2]
    cases meB (a, b) (c, d) <;> rfl
  · rw [hlen]
    unfold fleetref2_MeetOf_x2
    simp
theorem meetof_eq {l m : List api_Spot} (hl : FRight l) (hm : FRight m) : fleetref2_MeetOf l m = some (touB l m) := by
  have hl' := hl
  have hm' := hm
  obtain ⟨l3, l200, lb, lS⟩ := hl'
  obtain ⟨m3, m200, mb, mS⟩ := hm'
  have hl0 := head_at l3
  have hm0 := head_at m3
  have hlen := ring_len l
  unfold fleetref2_MeetOf touB
  rw [range_loop (l := ring l) (fun _ e => cond ((ring m).any fun f => meB e f) (some (.inr ())) none) (.inl ()) (by omega), scan_any]
  · cases hc : (ring l).any fun e => (ring m).any fun f => meB e f with
    | true => simp
    | false =>
      simp only [cond_false, Option.bind_some]
      unfold fleetref2_MeetOf_x3
      simp only [hl0.1, hm0.1, Option.bind_some, whereof_eq hl (mb _ hm0.2), whereof_eq hm (lb _ hl0.2)]
      cases decide (wher l (m.headD ⟨0, 0⟩) = 0) <;> cases decide (wher m (l.headD ⟨0, 0⟩) = 0) <;> rfl
  · intro i hi
    have hi' : i < l.length := by omega
    have hx := inb_ring lb (List.getElem_mem hi)
    unfold fleetref2_MeetOf_x1
    rw [redge_at (by omega) hi']
    generalize (ring l)[i] = x at hx
    obtain ⟨c, d⟩ := x
    have h : (i : Int) < l.length := by omega
    simp only [h, decide_true, cond_true, Option.bind_some, meet_inner m200 mb hx.1 hx.2]
    cases (ring m).any fun f => meB (c, d) f <;> rfl
  · rw [hlen]
    unfold fleetref2_MeetOf_x1
    simp
end Go.Eng

/-
The law CellsNamed: the reference's list of cells, level by level; the law itself.
-/
namespace Go.Eng
open Go Geo
open scoped Classical
set_option linter.unusedVariables false
set_option linter.unusedSimpArgs false

/-! ### Level by level -/
def C4 : List (List UInt8) := [[48], [49], [50], [51]]
noncomputable def kids (l : List api_Spot) (ks : List UInt8) : List (List UInt8) := (C4.filter fun c => touB l (kbox (ks ++ c))).map fun c => ks ++ c
theorem full_succ (l : List api_Spot) (n : Nat) (ks : List UInt8) : full l (n + 1) ks = if touB l (kbox ks) = true then full l n (ks ++ [48]) ++ (full l n (ks ++ [49]) ++ (full l n (ks ++ [50]) ++ full l n (ks ++ [51]))) else [] := rfl
theorem full_base (l : List api_Spot) (ks : List UInt8) : full l 0 ks = if touB l (kbox ks) = true then [ks] else [] := rfl
theorem kids_eq (l : List api_Spot) (ks : List UInt8) : full l 0 (ks ++ [48]) ++ (full l 0 (ks ++ [49]) ++ (full l 0 (ks ++ [50]) ++ full l 0 (ks ++ [51]))) = kids l ks := by
  unfold kids C4
  rw [full_base, full_base, full_base, full_base]
  cases h0 : touB l (kbox (ks ++ [48])) <;> cases h1 : touB l (kbox (ks ++ [49])) <;> cases h2 : touB l (kbox (ks ++ [50])) <;> cases h3 : touB l (kbox (ks ++ [51])) <;> simp [List.filter, h0, h1, h2, h3]
theorem full_next (l : List api_Spot) : ∀ (n : Nat) (ks : List UInt8), full l (n + 1) ks = (full l n ks).flatMap (kids l)
  | 0, ks => by
    rw [full_succ l 0 ks, kids_eq, full_base]
    by_cases h : touB l (kbox ks) = true
    · rw [if_pos h, if_pos h]; simp
    · rw [if_neg h, if_neg h]; rfl
  | n + 1, ks => by
    rw [full_succ l (n + 1) ks, full_succ l n ks]
    by_cases h : touB l (kbox ks) = true
    · rw [if_pos h, if_pos h, full_next l n, full_next l n, full_next l n, full_next l n]
      simp only [List.flatMap_append]
    · rw [if_neg h, if_neg h]; rfl
theorem mem_kids {l : List api_Spot} {ks x : List UInt8} (h : x ∈ kids l ks) : ∃ c ∈ C4, x = ks ++ c ∧ touB l (kbox x) = true := by
  unfold kids at h
  obtain ⟨c, hc, rfl⟩ := List.mem_map.1 h
  obtain ⟨h1, h2⟩ := List.mem_filter.1 hc
  exact ⟨c, h1, rfl, h2⟩
theorem c4_dig {c : List UInt8} (h : c ∈ C4) : Dig c ∧ c.length = 1 := by
  unfold C4 at h
  simp only [List.mem_cons, List.not_mem_nil, or_false] at h
  rcases h with rfl | rfl | rfl | rfl <;> refine ⟨?_, rfl⟩ <;> intro k hk <;> rw [List.mem_singleton] at hk <;> subst hk <;> decide
theorem dig_app {a b : List UInt8} (ha : Dig a) (hb : Dig b) : Dig (a ++ b) := fun k hk => by
  rcases List.mem_append.1 hk with h | h
  · exact ha k h
  · exact hb k h
theorem full_has (l : List api_Spot) : ∀ (n : Nat) (x : List UInt8), x ∈ full l n [] → Dig x ∧ x.length = n ∧ touB l (kbox x) = true
  | 0, x, h => by
    rw [full_base] at h
    split at h
    · rename_i ht
      rw [List.mem_singleton] at h
      subst h
      exact ⟨fun k hk => (by cases hk), rfl, ht⟩
    · cases h
  | n + 1, x, h => by
    rw [full_next] at h
    obtain ⟨y, hy, hx⟩ := List.mem_flatMap.1 h
    obtain ⟨h1, h2, _⟩ := full_has l n y hy
    obtain ⟨c, hc, rfl, ht⟩ := mem_kids hx
    obtain ⟨c1, c2⟩ := c4_dig hc
    exact ⟨dig_app h1 c1, by rw [List.length_append, h2, c2], ht⟩
theorem full_zero {l : List api_Spot} (hl : FIn l) : full l 0 [] = [[]] := by
  have h3 := hl.1.1
  have hw : wher l (l.headD ⟨0, 0⟩) ≠ 0 := by rw [wher_head h3]; omega
  have hin := wher_inR.1 hw
  have hin1 : InR ((l.map pt).map (sc 1)) (pt (l.headD ⟨0, 0⟩)) := by rw [sc_one]; exact hin
  rw [full_base, if_pos (touch_of hl.1 (k := 1) (by omega) hin1 (fun k hk => by cases hk) (by simp) (in_whole hl (by omega) hin1))]
theorem kids_some {l : List api_Spot} (hl : FRight l) {x : List UInt8} (hd : Dig x) (h15 : x.length + 1 ≤ 15) (ht : touB l (kbox x) = true) : 1 ≤ (kids l x).length := by
  obtain ⟨k, k0, r, q1, q2⟩ := (touB_iff hl.1 (kbox_right hd (by omega)).1).1 ht
  obtain ⟨b, hb1, hb2⟩ := part_has k0 hd h15 ((inR_kbox k0 hd (by omega)).1 q2)
  have ht2 := touch_of hl k0 q1 (dig_snoc hd (dig_of hb1)) (by simp; omega) hb2
  have : x ++ [b] ∈ kids l x := by
    unfold kids
    refine List.mem_map.2 ⟨[b], List.mem_filter.2 ⟨?_, ht2⟩, rfl⟩
    unfold C4
    rcases hb1 with rfl | rfl | rfl | rfl <;> simp
  exact List.length_pos_of_mem this
theorem flat_len {α β : Type} {g : α → List β} : ∀ {l : List α}, (∀ x ∈ l, 1 ≤ (g x).length) → l.length ≤ (l.flatMap g).length
  | [], _ => by simp
  | x :: l, h => by
    have h1 := h x (List.mem_cons_self ..)
    have h2 := flat_len (g := g) (l := l) fun y hy => h y (List.mem_cons_of_mem _ hy)
    rw [List.flatMap_cons, List.length_append, List.length_cons]
    omega
theorem full_grow {l : List api_Spot} (hl : FRight l) {n : Nat} (h : n + 1 ≤ 15) : (full l n []).length ≤ (full l (n + 1) []).length := by
  rw [full_next]
  exact flat_len fun x hx => by
    obtain ⟨h1, h2, h3⟩ := full_has l n x hx
    exact kids_some hl h1 (by omega) h3
theorem full_more {l : List api_Spot} (hl : FRight l) {n : Nat} : ∀ m, n ≤ m → m ≤ 15 → (full l n []).length ≤ (full l m []).length
  | 0, h, _ => by have : n = 0 := by omega
                  subst this; exact Nat.le_refl _
  | m + 1, h, h2 => by
    by_cases e : n = m + 1
    · subst e; exact Nat.le_refl _
    · exact Nat.le_trans (full_more hl m (by omega) (by omega)) (full_grow hl h2)
theorem kids_four (l : List api_Spot) (ks : List UInt8) : (kids l ks).length ≤ 4 := by
  unfold kids
  rw [List.length_map]
  exact List.length_filter_le _ _
theorem foldl_filter2 {α β : Type} (p : α → Bool) (f : α → β) : ∀ (l : List α) (s : List β), l.foldl (fun s c => bif p c then s ++ [f c] else s) s = s ++ (l.filter p).map f
  | [], s => by simp
  | x :: l, s => by
    rw [List.foldl_cons, foldl_filter2 p f l]
    cases hp : p x <;> simp [hp]
theorem foldl_flat {α β : Type} (g : α → List β) : ∀ (l : List α) (s : List β), l.foldl (fun s c => s ++ g c) s = s ++ l.flatMap g
  | [], s => by simp
  | x :: l, s => by rw [List.foldl_cons, foldl_flat g l]; simp [List.flatMap_cons]
theorem kids_loop {l : List api_Spot} (hl : FRight l) {ks : List UInt8} (hd : Dig ks) (h14 : ks.length ≤ 14) {out : List (List UInt8)} (ho : out.length ≤ 100000) : loopO (fleetref2_CellsOf_x3 l ks) (out, 0) = some (out ++ kids l ks) := by
  have := fold_loop0 (l := C4) (f := fleetref2_CellsOf_x3 l ks) (fun (s : List (List UInt8)) i => (s, i)) (fun s c => bif touB l (kbox (ks ++ c)) then s ++ [ks ++ c] else s) id (fun i s => s.length ≤ 100000 + i) (s0 := out) (by decide)
    (fun i hi s hs => by
      have hi4 : i < 4 := hi
      have hc : (i : Int) < (([([48] : List UInt8), ([49] : List UInt8), ([50] : List UInt8), ([51] : List UInt8)] : List (List UInt8)).length : Int) := by show (i : Int) < 4; omega
      have hat : at? ([([48] : List UInt8), ([49] : List UInt8), ([50] : List UInt8), ([51] : List UInt8)] : List (List UInt8)) (i : Int) = some (C4[i]'hi) := at_nat hi
      obtain ⟨c1, c2⟩ := c4_dig (List.getElem_mem hi)
      generalize C4[i]'hi = c at hat c1 c2
      have hdc := dig_app hd c1
      have hlc : (ks ++ c).length ≤ 15 := by rw [List.length_append]; omega
      obtain ⟨b1, b2, b3⟩ := cb_box hdc hlc
      have hq := pow_pos2 (15 - (ks ++ c).length)
      have hbox : ([⟨(cbox (ks ++ c)).1, (cbox (ks ++ c)).2.1⟩, api_Spot.mk (IntKind.wrap .i64 ((cbox (ks ++ c)).1 + (cbox (ks ++ c)).2.2)) (cbox (ks ++ c)).2.1, api_Spot.mk (IntKind.wrap .i64 ((cbox (ks ++ c)).1 + (cbox (ks ++ c)).2.2)) (IntKind.wrap .i64 ((cbox (ks ++ c)).2.1 + (cbox (ks ++ c)).2.2)), api_Spot.mk (cbox (ks ++ c)).1 (IntKind.wrap .i64 ((cbox (ks ++ c)).2.1 + (cbox (ks ++ c)).2.2))] : List api_Spot) = kbox (ks ++ c) := by
        rw [wrap64 (n := (cbox (ks ++ c)).1 + (cbox (ks ++ c)).2.2) (by omega) (by omega), wrap64 (n := (cbox (ks ++ c)).2.1 + (cbox (ks ++ c)).2.2) (by omega) (by omega)]
        rfl
      have hx4 : fleetref2_CellsOf_x4 l ks s (i : Int) = some (bif touB l (kbox (ks ++ c)) then s ++ [ks ++ c] else s) := by
        unfold fleetref2_CellsOf_x4
        rw [hat]
        simp only [Option.bind_some]
        rw [gd_true (ble_lim (by omega)), CellBoxOf_eq hdc hlc]
        simp only [Option.bind_some]
        rw [hbox, meetof_eq (kbox_right hdc hlc) hl, touB_comm]
        simp only [Option.bind_some]
        cases touB l (kbox (ks ++ c)) with
        | false => rfl
        | true => simp only [cond_true]; rw [gd_true (ble_lim (by simp; omega))]
      refine ⟨?_, ?_⟩
      · unfold fleetref2_CellsOf_x3
        simp only [hc, decide_true, cond_true, hx4, Option.bind_some]
      · cases touB l (kbox (ks ++ c)) <;> simp <;> omega)
    (fun s _ => by unfold fleetref2_CellsOf_x3; rfl) (by omega)
  rw [this.1, foldl_filter2 (fun c => touB l (kbox (ks ++ c))) (fun c => ks ++ c)]
  rfl
theorem level_loop {l : List api_Spot} (hl : FRight l) {m : List (List UInt8)} (hm : ∀ x ∈ m, Dig x ∧ x.length ≤ 14) (hlen : m.length ≤ 1000) : loopO (fleetref2_CellsOf_x2 l m) ([], 0) = some (m.flatMap (kids l)) := by
  have := fold_loop0 (l := m) (f := fleetref2_CellsOf_x2 l m) (fun (s : List (List UInt8)) i => (s, i)) (fun s k => s ++ kids l k) id (fun i s => s.length ≤ 4 * i) (s0 := []) (by omega)
    (fun i hi s hs => by
      have hc : (i : Int) < m.length := by omega
      obtain ⟨d1, d2⟩ := hm m[i] (List.getElem_mem _)
      have h4 := kids_four l m[i]
      refine ⟨?_, by rw [List.length_append]; omega⟩
      unfold fleetref2_CellsOf_x2
      simp only [hc, decide_true, cond_true, at_nat hi, Option.bind_some, kids_loop hl d1 d2 (show s.length ≤ 100000 by omega)])
    (fun s _ => by unfold fleetref2_CellsOf_x2; simp) (by simp)
  rw [this.1, foldl_flat]
  rfl
theorem CellsOf_eq {l : List api_Spot} (hl : FIn l) {n : Nat} (hn : n ≤ 15) : fleetref2_CellsOf l n = some (if (full l n []).length ≤ 1000 then (full l n [], 0) else ([], 2)) := by
  obtain ⟨x, h1, h2⟩ := loop_ok (f := fleetref2_CellsOf_x1 l (n : Int)) (Q := fun x => match x with | .inl m => m = full l n [] ∧ (full l n []).length ≤ 1000 | .inr _ => 1000 < (full l n []).length)
    (fun st => ∃ i : Nat, i ≤ n ∧ st = (full l i [], (i : Int)) ∧ (full l i []).length ≤ 1000) (fun st => ((n : Int) - st.2).toNat) (by
    rintro _ ⟨i, hi, rfl, hlen⟩
    unfold fleetref2_CellsOf_x1
    refine .cond (fun hc => ?_) (fun hc => ?_)
    · have hc : (i : Int) < n := by simpa using hc
      have wi : IntKind.wrap .i64 ((i : Int) + 1) = ((i + 1 : Nat) : Int) := by rw [wrap64 (by omega) (by omega)]; omega
      rw [level_loop hl.1 (fun x hx => by
        obtain ⟨d1, d2, _⟩ := full_has l i x hx
        exact ⟨d1, by omega⟩) hlen, ← full_next]
      simp only [Option.bind_some]
      refine .cond (fun hb => ?_) (fun hb => ?_)
      · have hb : (1000 : Int) < (full l (i + 1) []).length := by simpa using hb
        have := full_more hl.1 (n := i + 1) n (by omega) hn
        exact .some (by show 1000 < _; omega)
      · have hb : ¬ (1000 : Int) < (full l (i + 1) []).length := by simpa using hb
        rw [wi]
        exact .some ⟨⟨i + 1, by omega, rfl, by omega⟩, by simp only; omega⟩
    · have hc : ¬ (i : Int) < n := by simpa using hc
      have : i = n := by omega
      subst this
      exact .some ⟨rfl, hlen⟩) (s := ([[]], 0)) ⟨0, by omega, by rw [full_zero hl]; rfl, by rw [full_zero hl]; simp⟩
  unfold fleetref2_CellsOf
  rw [h1]
  cases x with
  | inl m =>
    obtain ⟨rfl, h3⟩ := h2
    rw [if_pos h3]; rfl
  | inr u =>
    have h2 : 1000 < (full l n []).length := h2
    rw [if_neg (by omega)]; rfl

/-! ### What the stream makes -/
theorem Spot_ok {k : Nat} {s : fleetmake_Stream} (h : StrOk k s) (hk : k + 100 < 1099511627776) : Ok (fleetmake_Stream_Spot s) (fun r => StrOk (k + 5) r.1) := by
  unfold fleetmake_Stream_Spot fleetmake_Stream_Spot_x1
  refine (Place_ok h (by omega)).bind fun p hp => ?_
  have h2 := (h.nxt (by omega)).nxt (by omega)
  have hx : Ok ((fleetmake_Stream_Flip (nxt (nxt s)) 15).bind fun vr =>
    cond (vr) ((fleetmake_Stream_Odd (nxt (nxt (nxt s))) (-10000) 10000).bind fun (vs1, vr3) => some (vs1, api_Spot.mk vr3 p.Y))
    (some (nxt (nxt (nxt s)), p))) (fun r : fleetmake_Stream × api_Spot => StrOk (k + 5) r.1) := by
    refine (Flip_ok h2 (by omega) (by unfold I64; omega)).bind fun b _ => .cond (fun _ => ?_) (fun _ => .some ((h2.nxt (by omega)).mono (by omega)))
    refine (Odd_ok (h2.nxt (by omega)) (by omega) (by omega) (by omega) (by omega)).bind fun ⟨s', x⟩ hx => .some hx.1
  exact hx.bind fun ⟨s', p'⟩ hq => .some hq
theorem Fence2_ok {k : Nat} {s : fleetmake_Stream} (h : StrOk k s) (hk : k + 2000 < 1099511627776) : Ok (fleetmake_Stream_Fence s) (fun r => StrOk (k + 120) r.1 ∧ r.2.Key.length ≤ 5 ∧ r.2.Corners.length ≤ 10) := by
  unfold fleetmake_Stream_Fence
  refine (RightFence_ok h (by omega)).bind fun ⟨s1, l⟩ ⟨h1, h2, h3⟩ => ?_
  have hl : 3 ≤ l.length := (right_of_zero h2).1.1
  have h1 : StrOk (k + 100) s1 := h1
  have h3 : l.length ≤ 8 := h3
  have hx : Ok (fleetmake_Stream_Fence_x1 s1 l) (fun r => StrOk (k + 120) r.1 ∧ r.2.1.length ≤ 5 ∧ r.2.2.length ≤ 10) := by
    unfold fleetmake_Stream_Fence_x1
    have a1 := h1.nxt (by omega)
    have a2 := a1.nxt (by omega)
    refine (Flip_ok h1 (by omega) (by unfold I64; omega)).bind fun b _ => .cond (fun _ => ?_) (fun _ => .some ⟨a1.mono (by omega), by simp, by simp only; omega⟩)
    refine (Next_ok a1 (by omega) (by unfold I64; omega)).bind fun n _ => .cond (fun _ => ?_) (fun _ => .cond (fun _ => ?_) (fun _ => .cond (fun _ => ?_) (fun _ => ?_)))
    · refine (Some_ok a2 (by omega) (by simp) (by simp)).bind fun t ht => .some ⟨(a2.nxt (by omega)).mono (by omega), ?_, by simp only; omega⟩
      simp only [List.mem_cons, List.not_mem_nil, or_false] at ht
      rcases ht with rfl | rfl <;> simp
    · refine (Next_ok a2 (by omega) (by unfold I64; omega)).bind fun m hm => ?_
      have hm := hm.1 (by omega)
      have hs : sub? l 0 m = some (l.take m.toNat) := by
        unfold sub?
        rw [if_pos (by omega)]
        simp
      rw [hs]
      exact .some ⟨(a2.nxt (by omega)).mono (by omega), by simp, by simp; omega⟩
    · unfold slices_Clone_api_Spot_api_Spot
      rw [gd_true (ble_lim (by simp; omega))]
      refine (Spot_ok a2 (by omega)).bind fun ⟨s3, p⟩ hp => .gd (ble_lim (by simp; omega)) (.some ⟨hp.mono (by omega), by simp, by simp; omega⟩)
    · have a4 := (a2.nxt (by omega)).nxt (by omega)
      have a6 := (a4.nxt (by omega)).nxt (by omega)
      have a8 := (a6.nxt (by omega)).nxt (by omega)
      have a10 := (a8.nxt (by omega)).nxt (by omega)
      exact (Place_ok a2 (by omega)).bind fun _ _ => (Place_ok a4 (by omega)).bind fun _ _ => (Place_ok a6 (by omega)).bind fun _ _ => (Place_ok a8 (by omega)).bind fun _ _ => .some ⟨a10.mono (by omega), by simp, by simp⟩
  exact hx.bind fun ⟨s2, key, cs⟩ hq => .some ⟨hq.1, hq.2.1, hq.2.2⟩
theorem CellKey_ok {k : Nat} {s : fleetmake_Stream} (h : StrOk k s) (hk : k + 100 < 1099511627776) : Ok (fleetmake_Stream_CellKey s) (fun r => StrOk (k + 30) r.1 ∧ r.2.length ≤ 16) := by
  unfold fleetmake_Stream_CellKey
  refine (Range_ok h (by omega) (by omega) (by omega)).bind fun ⟨s1, n⟩ ⟨r1, r2, r3, _⟩ => ?_
  simp only at r1 r2 r3
  have r3 := r3 (by omega)
  have loop : Ok (loopO (fleetmake_Stream_CellKey_x1 n) (s1, [], 0)) (fun q => StrOk (k + 20) q.1 ∧ q.2.length ≤ 16) := by
    refine loop_ok (fun q : fleetmake_Stream × List UInt8 × Int => ∃ j : Nat, q.2.2 = (j : Int) ∧ (j : Int) ≤ 15 ∧ StrOk (k + 1 + j) q.1 ∧ q.2.1.length = j) (fun q => ((15 : Int) - q.2.2).toNat) ?_ ⟨0, rfl, by omega, by simpa using r1, rfl⟩
    rintro ⟨s2, t, i⟩ ⟨j, rfl, j1, j2, j3⟩
    simp only at j2 j3
    unfold fleetmake_Stream_CellKey_x1
    refine .cond (fun hc => ?_) (fun hc => .some ⟨j2.mono (by omega), by simp only; omega⟩)
    have hc : (j : Int) < n := by simpa using hc
    refine (Some_ok j2 (by omega) (by simp) (by simp)).bind fun w hw => ?_
    have hw1 : w.length = 1 := by
      simp only [List.mem_cons, List.not_mem_nil, or_false] at hw
      rcases hw with rfl | rfl | rfl | rfl <;> rfl
    have w1 : IntKind.wrap .i64 ((j : Int) + 1) = ((j + 1 : Nat) : Int) := by rw [wrap64 (by omega) (by omega)]; omega
    rw [w1]
    exact .gd (ble_lim (by omega)) (.some ⟨⟨j + 1, rfl, by omega, (j2.nxt (by omega)).mono (by omega), by rw [List.length_append]; omega⟩, by simp only; omega⟩)
  refine loop.bind fun ⟨s2, t⟩ ⟨q1, q2⟩ => ?_
  simp only at q1 q2
  have hx : Ok (fleetmake_Stream_CellKey_x2 s2 t) (fun r => StrOk (k + 30) r.1 ∧ r.2.length ≤ 16) := by
    unfold fleetmake_Stream_CellKey_x2
    have a1 := q1.nxt (by omega)
    refine (Flip_ok q1 (by omega) (by unfold I64; omega)).bind fun b _ => .cond (fun _ => ?_) (fun _ => .some ⟨a1.mono (by omega), q2⟩)
    refine (Some_ok a1 (by omega) (by simp) (by simp)).bind fun w hw => .some ⟨(a1.nxt (by omega)).mono (by omega), ?_⟩
    simp only [List.mem_cons, List.not_mem_nil, or_false] at hw
    rcases hw with rfl | rfl | rfl | rfl <;> simp
  exact hx.bind fun ⟨s3, t2⟩ hq => .some hq

/-! ### The law -/
theorem Cell_all (p : api_Spot) {lv : Int} (hlv : -1 ≤ lv ∧ lv ≤ 16) : place_Cell p lv = some (if InS p ∧ (0 ≤ lv ∧ lv ≤ 15) then (ckey (p.X + 16384) (p.Y + 16384) lv.toNat, 0) else ([], 1)) := by
  by_cases h : InS p ∧ (0 ≤ lv ∧ lv ≤ 15)
  · rw [if_pos h]
    obtain ⟨⟨hx, hy⟩, h0, h1⟩ := h
    obtain ⟨n, rfl⟩ : ∃ n : Nat, lv = (n : Int) := ⟨lv.toNat, by omega⟩
    rw [Int.toNat_natCast]
    exact Cell_eq hx hy (by omega)
  · rw [if_neg h]
    unfold place_Cell
    have h1 : place_Cell_x1 p lv = some true := by
      unfold place_Cell_x1
      rw [isSpot_eq]
      by_cases hp : InS p
      · have hlv2 : (decide (lv < 0) || decide (15 < lv)) = true := by
          have : ¬ (0 ≤ lv ∧ lv ≤ 15) := fun hh => h ⟨hp, hh⟩
          simp only [Bool.or_eq_true, decide_eq_true_eq]; omega
        unfold InS at hp
        have e : ((decide (-10000 ≤ p.X) && decide (p.X ≤ 10000)) && (decide (-10000 ≤ p.Y) && decide (p.Y ≤ 10000))) = true := by
          simp only [Bool.and_eq_true, decide_eq_true_eq]; exact hp
        simp only [e, Option.bind_some, Bool.not_true, cond_false, Out_eq, hlv2]
      · have e : ((decide (-10000 ≤ p.X) && decide (p.X ≤ 10000)) && (decide (-10000 ≤ p.Y) && decide (p.Y ≤ 10000))) = false := by
          rw [Bool.eq_false_iff]
          intro hh
          simp only [Bool.and_eq_true, decide_eq_true_eq] at hh
          exact hp hh
        simp only [e, Option.bind_some, Bool.not_false, cond_true]
    rw [h1]
    rfl
theorem one_eq (p : api_Spot) {lv : Int} (hlv : -1 ≤ lv ∧ lv ≤ 16) : fleetlaw2_CellsNamed_x2 lv p = some (if InS p ∧ (0 ≤ lv ∧ lv ≤ 15) then 0 else 1) := by
  unfold fleetlaw2_CellsNamed_x2
  rw [SpotFault_eq]
  have e : ((decide (-10000 ≤ p.X) && decide (p.X ≤ 10000)) && (decide (-10000 ≤ p.Y) && decide (p.Y ≤ 10000))) = decide (InS p) := by
    rw [Bool.eq_iff_iff]
    simp only [Bool.and_eq_true, decide_eq_true_eq]
    exact Iff.rfl
  rw [e]
  simp only [lwhen_eq, lerrs2, Option.bind_some]
  by_cases hp : InS p
  · by_cases h0 : lv < 0
    · have : ¬ (0 ≤ lv) := by omega
      simp [hp, h0, this, or0]
    · by_cases h1 : 15 < lv
      · have : ¬ (lv ≤ 15) := by omega
        simp [hp, h0, h1, this, or0]
      · have h2 : 0 ≤ lv := by omega
        have h3 : lv ≤ 15 := by omega
        simp [hp, h0, h1, h2, h3, or0]
  · by_cases h0 : lv < 0
    · simp [hp, h0, or0]
    · by_cases h1 : 15 < lv <;> simp [hp, h0, h1, or0]
theorem Cells_all {f : api_Fence} {e : Int} (hc : place_CheckFence f = some e) (hr : e = 0 → FIn f.Corners) {dp : Int} : place_Cells f dp = some (if e = 0 then (if 0 ≤ dp ∧ dp ≤ 15 then (if (full f.Corners dp.toNat []).length ≤ 1000 then (full f.Corners dp.toNat [], 0) else ([], 2)) else ([], 1)) else ([], e)) := by
  unfold place_Cells
  rw [hc]
  simp only [Option.bind_some, Out_eq]
  by_cases h0 : e = 0
  · subst h0
    rw [if_pos rfl]
    by_cases hd : 0 ≤ dp ∧ dp ≤ 15
    · rw [if_pos hd]
      obtain ⟨n, rfl⟩ : ∃ n : Nat, dp = (n : Int) := ⟨dp.toNat, by omega⟩
      have ho : (decide ((n : Int) < 0) || decide ((15 : Int) < n)) = false := by simp; omega
      rw [Int.toNat_natCast]
      simp only [ho, decide_true, Bool.not_true, cond_false, cells_first (hr rfl).1 (show n ≤ 15 by omega), Option.bind_some]
      by_cases h : (full f.Corners n []).length ≤ 1000
      · rw [if_pos h, List.take_of_length_le (by omega)]
        have : ¬ (1000 : Int) < (full f.Corners n []).length := by omega
        simp [this]
      · rw [if_neg h]
        have : (1000 : Int) < ((full f.Corners n []).take 1001).length := by rw [List.length_take]; omega
        simp only [this, decide_true, cond_true]
    · rw [if_neg hd]
      have ho : (decide (dp < 0) || decide ((15 : Int) < dp)) = true := by simp only [Bool.or_eq_true, decide_eq_true_eq]; omega
      simp [ho]
  · rw [if_neg h0]
    simp [h0]
theorem three_eq {f : api_Fence} {e : Int} (hf : fleetref2_FenceFault f = some e) {dp : Int} : fleetlaw2_CellsNamed_x3 f dp = some (or0 e (if 0 ≤ dp ∧ dp ≤ 15 then 0 else 1)) := by
  unfold fleetlaw2_CellsNamed_x3
  rw [hf]
  simp only [lwhen_eq, lerrs2, Option.bind_some]
  by_cases h0 : dp < 0
  · have : ¬ (0 ≤ dp) := by omega
    simp [h0, this]
  · by_cases h1 : 15 < dp
    · have : ¬ (dp ≤ 15) := by omega
      simp [h0, h1, this]
    · have h2 : 0 ≤ dp := by omega
      have h3 : dp ≤ 15 := by omega
      simp [h0, h1, h2, h3]
theorem CellsNamed_true (L : List Int) (hL : L.length ≤ 9223372036854775807) (hI : ∀ n ∈ L, -9223372036854775808 ≤ n ∧ n ≤ 9223372036854775807) : fleetlaw2_CellsNamed L = some true := by
  apply Ok.eq
  unfold fleetlaw2_CellsNamed
  have h0 : StrOk 0 (fleetmake_Stream.mk L 0) := ⟨Int.le_refl _, by simp, hL, hI⟩
  refine (Spot_ok h0 (by omega)).bind fun ⟨s1, p0⟩ h1 => ?_
  have h1 : StrOk 5 s1 := by simpa using h1
  refine (Pick_ok h1 (by omega) (by simp) (by simp)).bind fun lv hlv => ?_
  have hlv : -1 ≤ lv ∧ lv ≤ 16 := by
    simp only [List.mem_cons, List.not_mem_nil, or_false] at hlv
    omega
  refine (CellKey_ok (h1.nxt (by omega)) (by omega)).bind fun ⟨s2, key⟩ ⟨k1, k2⟩ => ?_
  simp only at k1 k2
  refine (Fence2_ok k1 (by omega)).bind fun ⟨s3, f⟩ ⟨f1, f2, f3⟩ => ?_
  simp only at f1 f2 f3
  have hx1 : Ok (fleetlaw2_CellsNamed_x1 p0 s3) (fun r => StrOk 1000 r.1) := by
    unfold fleetlaw2_CellsNamed_x1
    have a1 := f1.nxt (by omega)
    refine (Flip_ok f1 (by omega) (by unfold I64; omega)).bind fun b _ => .cond (fun _ => ?_) (fun _ => .some (a1.mono (by omega)))
    refine (Range_ok a1 (by omega) (by omega) (by omega)).bind fun ⟨s4, x⟩ ⟨x1, _⟩ => ?_
    refine (Range_ok x1 (by omega) (by omega) (by omega)).bind fun ⟨s5, y⟩ ⟨y1, _⟩ => .some (y1.mono (by omega))
  refine hx1.bind fun ⟨s4, p⟩ h4 => ?_
  have h4 : StrOk 1000 s4 := h4
  refine (Pick_ok h4 (by omega) (by simp) (by simp)).bind fun dp hdp => ?_
  obtain ⟨c, c1, c2, c3⟩ := corners_both f (by omega)
  obtain ⟨e, he⟩ : ∃ e, e = cond (keyB f.Key) c 5 := ⟨_, rfl⟩
  rw [← he] at c3
  have hff : fleetref2_FenceFault f = some e := by
    unfold fleetref2_FenceFault
    rw [QKey_eq _ (by omega), c1, he]
    cases keyB f.Key <;> rfl
  have hr : e = 0 → FIn f.Corners := by
    intro h
    rw [he] at h
    cases hk : keyB f.Key with
    | true => rw [hk] at h; exact c2 h
    | false => rw [hk] at h; cases h
  rw [Cell_all p hlv, CellBox_both (by omega), Cells_all c3 hr, one_eq p hlv, CellFault_eq (by omega), three_eq hff]
  simp only [Option.bind_some]
  -- the name of the spot's cell
  have hx4 : fleetlaw2_CellsNamed_x4 lv p (if InS p ∧ (0 ≤ lv ∧ lv ≤ 15) then 0 else 1) = some (if InS p ∧ (0 ≤ lv ∧ lv ≤ 15) then (ckey (p.X + 16384) (p.Y + 16384) lv.toNat, (0 : Int)) else ([], 1)).1 := by
    unfold fleetlaw2_CellsNamed_x4
    by_cases h : InS p ∧ (0 ≤ lv ∧ lv ≤ 15)
    · rw [if_pos h, if_pos h]
      obtain ⟨⟨hx, hy⟩, g0, g1⟩ := h
      obtain ⟨n, rfl⟩ : ∃ n : Nat, lv = (n : Int) := ⟨lv.toNat, by omega⟩
      simp only [decide_true, cond_true, CellOf_eq hx hy (show n ≤ 15 by omega), Option.bind_some, Int.toNat_natCast]
    · rw [if_neg h, if_neg h]; rfl
  rw [hx4]
  simp only [Option.bind_some]
  have hx5 : fleetlaw2_CellsNamed_x5 key (if key.length ≤ 15 ∧ Dig key then 0 else 9) = some (if key.length ≤ 15 ∧ Dig key then ((⟨(cbox key).1, (cbox key).2.1⟩ : api_Spot), (cbox key).2.2) else (⟨0, 0⟩, 0)) := by
    unfold fleetlaw2_CellsNamed_x5
    by_cases h : key.length ≤ 15 ∧ Dig key
    · rw [if_pos h, if_pos h]
      simp only [decide_true, cond_true, CellBoxOf_eq h.2 h.1, Option.bind_some]
    · rw [if_neg h, if_neg h]; rfl
  rw [hx5]
  simp only [Option.bind_some]
  have hx6 : ∃ cl er, (if e = 0 then (if 0 ≤ dp ∧ dp ≤ 15 then (if (full f.Corners dp.toNat []).length ≤ 1000 then (full f.Corners dp.toNat [], (0 : Int)) else ([], 2)) else ([], 1)) else ([], e)) = (cl, er) ∧ fleetlaw2_CellsNamed_x6 f dp (or0 e (if 0 ≤ dp ∧ dp ≤ 15 then 0 else 1)) = some (er, cl) ∧ cl.length ≤ 1000 := by
    unfold fleetlaw2_CellsNamed_x6
    by_cases h0 : e = 0
    · rw [if_pos h0, h0]
      by_cases hd : 0 ≤ dp ∧ dp ≤ 15
      · rw [if_pos hd, if_pos hd]
        obtain ⟨n, rfl⟩ : ∃ n : Nat, dp = (n : Int) := ⟨dp.toNat, by omega⟩
        rw [Int.toNat_natCast]
        have : or0 0 0 = 0 := rfl
        rw [this]
        simp only [decide_true, cond_true, CellsOf_eq (hr h0) (show n ≤ 15 by omega), Option.bind_some]
        by_cases h : (full f.Corners n []).length ≤ 1000
        · rw [if_pos h]; exact ⟨_, _, rfl, rfl, h⟩
        · rw [if_neg h]; exact ⟨_, _, rfl, rfl, by simp⟩
      · rw [if_neg hd, if_neg hd]
        exact ⟨_, _, rfl, rfl, by simp⟩
    · rw [if_neg h0]
      have : or0 e (if 0 ≤ dp ∧ dp ≤ 15 then 0 else 1) = e := by unfold or0; rw [if_neg h0]
      rw [this]
      simp only [h0, decide_false, cond_false]
      exact ⟨_, _, rfl, rfl, by simp⟩
  obtain ⟨cl, er, z1, z2, z3⟩ := hx6
  rw [z1, z2]
  simp only [Option.bind_some]
  have hx7 : ∀ (a : List UInt8) (ea : Int) (b : api_Spot) (lg eb : Int), fleetlaw2_CellsNamed_x7 a ea b lg eb cl er ea eb a b lg er cl = some true := by
    intro a ea b lg eb
    unfold fleetlaw2_CellsNamed_x7
    simp only [decide_true, Bool.and_self, cond_true, strEqual_self (l := cl) (by omega), Option.bind_some, placed_eq]
  by_cases ha : InS p ∧ (0 ≤ lv ∧ lv ≤ 15) <;> by_cases hb : key.length ≤ 15 ∧ Dig key
  · simp only [if_pos ha, if_pos hb, hx7, Option.bind_some]; exact .some rfl
  · simp only [if_pos ha, if_neg hb, hx7, Option.bind_some]; exact .some rfl
  · simp only [if_neg ha, if_pos hb, hx7, Option.bind_some]; exact .some rfl
  · simp only [if_neg ha, if_neg hb, hx7, Option.bind_some]; exact .some rfl
end Go.Eng

