/-
Numbers in sevens.
-/
import Derived.Test.YtjfpceigbgnjgaaPlainH
import Derived.Test.YtjfpceigbgnjgaaPlainL
namespace Go.Eng
open Go
set_option linter.unusedVariables false
set_option linter.unusedSimpArgs false

theorem wrapU64 {n : Int} (h : 0 ≤ n) (h2 : n ≤ 18446744073709551615) : IntKind.wrap .u64 n = n := by
  unfold IntKind.wrap
  simp [IntKind.min, IntKind.max, IntKind.bits, IntKind.signed]
  omega
theorem wrapU8 {n : Int} (h : 0 ≤ n) (h2 : n ≤ 255) : IntKind.wrap .u8 n = n := by
  unfold IntKind.wrap
  simp [IntKind.min, IntKind.max, IntKind.bits, IntKind.signed]
  omega
theorem bits64 : IntKind.bits .u64 = 64 := rfl
theorem and64 (a : Nat) (h : a < 18446744073709551616) : ibits .and .u64 (a : Int) 127 = ((a % 128 : Nat) : Int) := by
  unfold ibits
  have e : (BitVec.ofInt (IntKind.bits .u64) (a : Int) &&& BitVec.ofInt (IntKind.bits .u64) 127).toNat = a % 128 := by
    rw [bits64, BitVec.toNat_and]
    have e1 : (BitVec.ofInt 64 (a : Int)).toNat = a := by
      rw [BitVec.toNat_ofInt]; omega
    have e2 : (BitVec.ofInt 64 127).toNat = 127 := by decide
    rw [e1, e2]
    exact Nat.and_two_pow_sub_one_eq_mod a 7
  simp only [e]
  exact wrapU64 (by omega) (by omega)
theorem or64 (a b i : Nat) (h : a < 2 ^ i) (h2 : 2 ^ i * b + a < 18446744073709551616) : ibits .or .u64 (a : Int) ((2 ^ i * b : Nat) : Int) = ((2 ^ i * b + a : Nat) : Int) := by
  unfold ibits
  have e : (BitVec.ofInt (IntKind.bits .u64) (a : Int) ||| BitVec.ofInt (IntKind.bits .u64) ((2 ^ i * b : Nat) : Int)).toNat = 2 ^ i * b + a := by
    rw [bits64, BitVec.toNat_or]
    have e1 : (BitVec.ofInt 64 (a : Int)).toNat = a := by
      rw [BitVec.toNat_ofInt]; omega
    have e2 : (BitVec.ofInt 64 ((2 ^ i * b : Nat) : Int)).toNat = 2 ^ i * b := by
      rw [BitVec.toNat_ofInt]; omega
    rw [e1, e2, Nat.or_comm, Nat.two_pow_add_eq_or_of_lt h]
  simp only [e]
  exact wrapU64 (by omega) (by omega)
theorem or8 {m : Int} (h0 : 0 ≤ m) (h1 : m < 128) : ibits .or .u8 m 128 = m + 128 := by
  have : ∀ k : _root_.Fin 128, ibits .or .u8 (k.val : Int) 128 = (k.val : Int) + 128 := by decide +kernel
  have h := this ⟨m.toNat, by omega⟩
  simp only at h
  rw [show ((m.toNat : Nat) : Int) = m by omega] at h
  exact h
theorem and8 {c : Int} (h0 : 0 ≤ c) (h1 : c < 256) : ibits .and .u8 c 127 = c % 128 := by
  have : ∀ k : _root_.Fin 256, ibits .and .u8 (k.val : Int) 127 = (k.val : Int) % 128 := by decide +kernel
  have h := this ⟨c.toNat, by omega⟩
  simp only at h
  rw [show ((c.toNat : Nat) : Int) = c by omega] at h
  exact h

/-- A number, in sevens; at most k + 1 of them. -/
def sev : Nat → Int → List Int
  | 0, n => [n]
  | k + 1, n => if n < 128 then [n] else (n % 128 + 128) :: sev k (n / 128)
def cap7 : Nat → Int
  | 0 => 128
  | k + 1 => 128 * cap7 k
theorem sev_len : ∀ (k : Nat) (n : Int), 1 ≤ (sev k n).length ∧ (sev k n).length ≤ k + 1
  | 0, n => by simp [sev]
  | k + 1, n => by
    have := sev_len k (n / 128)
    unfold sev
    split
    · simp
    · simp; omega

theorem seven_x1 {b : List Int} {n : Int} (h : 128 ≤ n) (h2 : n ≤ 9223372036854775807) (hb : b.length ≤ 10000000) : series_seven_o0_x1 (b, n) = some (.inl (b ++ [n % 128 + 128], n / 128)) ∧ series_seven_n0_x1 (b, n) = some (.inl (b ++ [n % 128 + 128], n / 128)) := by
  have ea : ibits .and .u64 n 127 = n % 128 := by
    have := and64 n.toNat (by omega)
    rw [show ((n.toNat : Nat) : Int) = n by omega] at this
    rw [this]; omega
  have es : ishr .u64 n 7 = n / 128 := by
    unfold ishr
    have : (2 : Int) ^ (min (7 : Int).toNat (IntKind.bits .u64)) = 128 := by decide
    rw [this]
    exact Int.fdiv_eq_ediv_of_nonneg _ (by omega)
  unfold series_seven_o0_x1 series_seven_n0_x1
  simp only [h, decide_true, cond_true, ea, es, wrapU8 (n := n % 128) (by omega) (by omega), or8 (m := n % 128) (by omega) (by omega)]
  rw [gd_true (ble_lim (by simp; omega))]
  exact ⟨rfl, rfl⟩
theorem seven_go (f : List Int × Int → Option ((List Int × Int) ⊕ (List Int × Int))) (hf : ∀ (b : List Int) (n : Int), 128 ≤ n → n ≤ 9223372036854775807 → b.length ≤ 10000000 → f (b, n) = some (.inl (b ++ [n % 128 + 128], n / 128))) (hf2 : ∀ (b : List Int) (n : Int), n < 128 → f (b, n) = some (.inr (b, n))) :
    ∀ (k : Nat) (b : List Int) (n : Int), 0 ≤ n → n < cap7 k → n ≤ 9223372036854775807 → b.length + k ≤ 10000000 → ∃ b' m, loopO f (b, n) = some (b', m) ∧ 0 ≤ m ∧ m < 128 ∧ b' ++ [m] = b ++ sev k n := by
  intro k
  induction k with
  | zero =>
    intro b n h0 h1 h2 h3
    refine ⟨b, n, ?_, h0, h1, rfl⟩
    rw [loopO_eq, hf2 b n h1]; rfl
  | succ k ih =>
    intro b n h0 h1 h2 h3
    by_cases hn : n < 128
    · refine ⟨b, n, ?_, h0, hn, by simp [sev, hn]⟩
      rw [loopO_eq, hf2 b n hn]; rfl
    · have hc : n / 128 < cap7 k := by
        have : n < 128 * cap7 k := h1
        omega
      obtain ⟨b', m, e1, e2, e3, e4⟩ := ih (b ++ [n % 128 + 128]) (n / 128) (by omega) hc (by omega) (by simp; omega)
      refine ⟨b', m, ?_, e2, e3, ?_⟩
      · rw [loopO_eq, hf b n (by omega) h2 (by omega)]
        exact e1
      · rw [e4]; simp [sev, hn]
theorem cap7_8 : cap7 8 = 9223372036854775808 := by decide
theorem seven_o {b : List Int} {n : Int} (h0 : 0 ≤ n) (h1 : n ≤ 9223372036854775807) (hb : b.length ≤ 9000000) : series_seven_o0 b n = some (b ++ sev 8 n) := by
  obtain ⟨b', m, e1, e2, e3, e4⟩ := seven_go series_seven_o0_x1 (fun b n h h2 h3 => (seven_x1 h h2 h3).1) (fun b n h => by
    unfold series_seven_o0_x1
    have : ¬ 128 ≤ n := by omega
    simp [this]) 8 b n h0 (by rw [cap7_8]; omega) h1 (by omega)
  have hl : b'.length + 1 = (b ++ sev 8 n).length := by rw [← e4]; simp
  have := sev_len 8 n
  rw [List.length_append] at hl
  unfold series_seven_o0
  rw [e1]
  simp only [Option.bind_some, wrapU8 e2 (show m ≤ 255 by omega)]
  rw [gd_true (ble_lim (by simp; omega)), e4]
theorem seven_n {n : Int} (h0 : 0 ≤ n) (h1 : n ≤ 9223372036854775807) : series_seven_n0 n = some (sev 8 n) := by
  obtain ⟨b', m, e1, e2, e3, e4⟩ := seven_go series_seven_n0_x1 (fun b n h h2 h3 => (seven_x1 h h2 h3).2) (fun b n h => by
    unfold series_seven_n0_x1
    have : ¬ 128 ≤ n := by omega
    simp [this]) 8 [] n h0 (by rw [cap7_8]; omega) h1 (by simp)
  have hl : b'.length + 1 = ([] ++ sev 8 n).length := by rw [← e4]; simp
  have := sev_len 8 n
  rw [List.length_append] at hl
  simp only [List.length_nil, Nat.zero_add] at hl
  unfold series_seven_n0
  rw [e1]
  simp only [Option.bind_some, wrapU8 e2 (show m ≤ 255 by omega)]
  rw [gd_true (ble_lim (by simp; omega)), e4]
  simp
theorem sevens_n : ∀ (k : Nat) (n : Int), 0 ≤ n → n < cap7 k → n ≤ 9223372036854775807 → k ≤ 1000 → fleetref2_sevens_n (k + 1) n = some (sev k n) ∧ ∀ d x, fleetref2_sevens_n d n = some x → x = sev k n := by
  intro k
  induction k with
  | zero =>
    intro n h0 h1 h2 h3
    have h1' : n < 128 := h1
    refine ⟨by simp [fleetref2_sevens_n, h1', wrapU8 h0 (show n ≤ 255 by omega), sev], fun d x hx => ?_⟩
    cases d with
    | zero => simp [fleetref2_sevens_n] at hx
    | succ d => simp [fleetref2_sevens_n, h1', wrapU8 h0 (show n ≤ 255 by omega)] at hx; rw [← hx]; rfl
  | succ k ih =>
    intro n h0 h1 h2 h3
    by_cases hn : n < 128
    · refine ⟨by simp [fleetref2_sevens_n, hn, wrapU8 h0 (show n ≤ 255 by omega), sev], fun d x hx => ?_⟩
      cases d with
      | zero => simp [fleetref2_sevens_n] at hx
      | succ d => simp [fleetref2_sevens_n, hn, wrapU8 h0 (show n ≤ 255 by omega)] at hx; rw [← hx]; simp [sev, hn]
    · have hc : n / 128 < cap7 k := by
        have : n < 128 * cap7 k := h1
        omega
      obtain ⟨i1, i2⟩ := ih (n / 128) (by omega) hc (by omega) (by omega)
      have e1 : IntKind.wrap .i64 (n.tdiv 128) = n / 128 := by
        rw [Int.tdiv_eq_ediv_of_nonneg h0, wrap64 (by omega) (by omega)]
      have e2 : IntKind.wrap .u8 (IntKind.wrap .i64 ((n.tmod 128) + 128)) = n % 128 + 128 := by
        rw [Int.tmod_eq_emod_of_nonneg h0, wrap64 (by omega) (by omega), wrapU8 (by omega) (by omega)]
      have hl := sev_len k (n / 128)
      have step : ∀ d, fleetref2_sevens_n (d + 1) n = (fleetref2_sevens_n d (n / 128)).bind fun r => gd (Nat.ble (([n % 128 + 128] : List Int).length + r.length) LIM) (some ([n % 128 + 128] ++ r)) := by
        intro d
        rw [fleetref2_sevens_n]
        simp only [hn, decide_false, cond_false, e1, e2]
      refine ⟨?_, fun d x hx => ?_⟩
      · rw [step, i1]
        simp only [Option.bind_some]
        rw [gd_true (ble_lim (by simp; omega))]
        simp [sev, hn]
      · cases d with
        | zero => simp [fleetref2_sevens_n] at hx
        | succ d =>
          rw [step] at hx
          obtain ⟨r, h5, h6⟩ := bind_some hx
          have := i2 d r h5
          subst this
          obtain ⟨_, h7⟩ := gd_some h6
          injection h7 with h7
          rw [← h7]
          simp [sev, hn]
theorem sevens_eq {n : Int} (h0 : 0 ≤ n) (h1 : n ≤ 9223372036854775807) : fleetref2_sevens n = some (sev 8 n) := by
  obtain ⟨a, b⟩ := sevens_n 8 n h0 (by rw [cap7_8]; omega) h1 (by omega)
  exact fixO_eq a b

/-- A number that can be below 0, as one that cannot. -/
def zig (n : Int) : Int := if n < 0 then -2 * n - 1 else 2 * n
theorem zig_nonneg (n : Int) : 0 ≤ zig n := by unfold zig; split <;> omega
theorem doubled_eq {n : Int} (h : -4398046511104000 ≤ n ∧ n ≤ 4398046511104000) : series_doubled n = some (zig n) := by
  unfold series_doubled zig
  by_cases hn : n < 0
  · simp only [hn, decide_true, cond_true, if_true]
    rw [wrap64 (n := -2 * n) (by omega) (by omega), wrap64 (by omega) (by omega), wrapU64 (by omega) (by omega)]
  · simp only [hn, decide_false, cond_false, if_false]
    rw [wrap64 (by omega) (by omega), wrapU64 (by omega) (by omega)]
theorem turned_eq {n : Int} (h : -4398046511104000 ≤ n ∧ n ≤ 4398046511104000) : fleetref2_turned n = some (zig n) := by
  unfold fleetref2_turned zig
  by_cases hn : n < 0
  · simp only [hn, decide_true, cond_true, if_true]
    rw [wrap64 (n := -2 * n) (by omega) (by omega), wrap64 (by omega) (by omega)]
  · simp only [hn, decide_false, cond_false, if_false]
    rw [wrap64 (by omega) (by omega)]

/-! ### A series -/
/-- The bytes of the measurements from some place on: the moment and the gap before, the value before. -/
def body : Int → Int → Int → Bool → List api_Sample → List Int
  | _, _, _, _, [] => []
  | at_, gap, v, first, s :: l => sev 8 (zig ((s.At - at_) - gap)) ++ (sev 8 (zig (s.Value - v)) ++ body s.At (if first then 0 else s.At - at_) s.Value false l)
def packed (l : List api_Sample) : List Int := sev 8 l.length ++ body 0 0 0 true l
theorem body_len : ∀ (l : List api_Sample) (a g v : Int) (b : Bool), (body a g v b l).length ≤ 18 * l.length
  | [], _, _, _, _ => by simp [body]
  | s :: l, a, g, v, b => by
    have := body_len l s.At (if b then 0 else s.At - a) s.Value false
    have h1 := sev_len 8 (zig ((s.At - a) - g))
    have h2 := sev_len 8 (zig (s.Value - v))
    simp only [body, List.length_append, List.length_cons]
    omega

def Near (n : Int) : Prop := -4398046511104 ≤ n ∧ n ≤ 4398046511104
theorem zig_le {n : Int} {m : Int} (h : -m ≤ n ∧ n ≤ m) : zig n ≤ 2 * m := by unfold zig; split <;> omega
theorem pack_go {l : List api_Sample} (hb : SBnd l) (hl : l.length ≤ 100000) (f : List Int × Int × Int × Int × Int → Option ((List Int × Int × Int × Int × Int) ⊕ List Int))
    (hf : ∀ (i : Nat) (hi : i < l.length) (out : List Int) (a g v : Int), out.length ≤ 8000000 → -2199023255552 ≤ a ∧ a ≤ 2199023255552 → Near g → -2199023255552 ≤ v ∧ v ≤ 2199023255552 → (i = 0 → g = 0) →
      f (out, a, g, v, i) = some (.inl (out ++ (sev 8 (zig ((l[i].At - a) - g)) ++ sev 8 (zig (l[i].Value - v))), l[i].At, (if i = 0 then 0 else l[i].At - a), l[i].Value, (i : Int) + 1)))
    (hd : ∀ out a g v, f (out, a, g, v, l.length) = some (.inr out)) :
    ∀ (k i : Nat) (out : List Int) (a g v : Int), l.length - i = k → i ≤ l.length → out.length ≤ 1000 + 18 * i → -2199023255552 ≤ a ∧ a ≤ 2199023255552 → Near g → -2199023255552 ≤ v ∧ v ≤ 2199023255552 → (i = 0 → g = 0) →
      loopO f (out, a, g, v, i) = some (out ++ body a g v (decide (i = 0)) (l.drop i)) := by
  intro k
  induction k with
  | zero =>
    intro i out a g v hk hi ho ha hg hv hz
    have : i = l.length := by omega
    subst this
    rw [loopO_eq, hd]
    simp [body]
  | succ k ih =>
    intro i out a g v hk hi ho ha hg hv hz
    have hil : i < l.length := by omega
    obtain ⟨_, _, b1, b2⟩ := SBnd.at hb (List.getElem?_eq_getElem hil)
    have l1 := sev_len 8 (zig ((l[i].At - a) - g))
    have l2 := sev_len 8 (zig (l[i].Value - v))
    rw [loopO_eq, hf i hil out a g v (by omega) ha hg hv hz]
    simp only [Option.bind_some]
    have := ih (i + 1) (out ++ (sev 8 (zig ((l[i].At - a) - g)) ++ sev 8 (zig (l[i].Value - v)))) l[i].At (if i = 0 then 0 else l[i].At - a) l[i].Value (by omega) (by omega) (by simp only [List.length_append]; omega) b1 (by unfold Near; split <;> omega) b2 (by omega)
    rw [show ((i + 1 : Nat) : Int) = (i : Int) + 1 by omega] at this
    rw [this, drop_get hil]
    simp only [body, List.append_assoc]
    congr 4
    by_cases h0 : i = 0 <;> simp [h0]

theorem pack_x1 {l : List api_Sample} (hb : SBnd l) (hl : l.length ≤ 100000) (i : Nat) (hi : i < l.length) (out : List Int) (a g v : Int) (ho : out.length ≤ 8000000) (ha : -2199023255552 ≤ a ∧ a ≤ 2199023255552) (hg : Near g) (hv : -2199023255552 ≤ v ∧ v ≤ 2199023255552) (hz : i = 0 → g = 0) :
    (series_pack_x1 l (out, a, g, v, i) = some (.inl (out ++ (sev 8 (zig ((l[i].At - a) - g)) ++ sev 8 (zig (l[i].Value - v))), l[i].At, (if i = 0 then 0 else l[i].At - a), l[i].Value, (i : Int) + 1))) ∧
    (fleetref2_PackOf_x1 l (out, a, g, v, i) = some (.inl (out ++ (sev 8 (zig ((l[i].At - a) - g)) ++ sev 8 (zig (l[i].Value - v))), l[i].At, (if i = 0 then 0 else l[i].At - a), l[i].Value, (i : Int) + 1))) ∧
    (fleetref2_PackOf_o0_x1 l (out, a, g, v, i) = some (.inl (out ++ (sev 8 (zig ((l[i].At - a) - g)) ++ sev 8 (zig (l[i].Value - v))), l[i].At, (if i = 0 then 0 else l[i].At - a), l[i].Value, (i : Int) + 1))) := by
  obtain ⟨_, _, b1, b2⟩ := SBnd.at hb (List.getElem?_eq_getElem hi)
  unfold Near at hg
  have hi' : (i : Int) < l.length := by omega
  have l1 := sev_len 8 (zig ((l[i].At - a) - g))
  have l2 := sev_len 8 (zig (l[i].Value - v))
  have z1 := zig_nonneg ((l[i].At - a) - g)
  have z2 := zig_nonneg (l[i].Value - v)
  have y1 := zig_le (n := (l[i].At - a) - g) (m := 8796093022208) (by omega)
  have y2 := zig_le (n := l[i].Value - v) (m := 4398046511104) (by omega)
  have w1 : IntKind.wrap .i64 (l[i].At - a) = l[i].At - a := wrap64 (by omega) (by omega)
  have w2 : IntKind.wrap .i64 (l[i].At - a - g) = l[i].At - a - g := wrap64 (by omega) (by omega)
  have w3 : IntKind.wrap .i64 (l[i].Value - v) = l[i].Value - v := wrap64 (by omega) (by omega)
  have w4 : IntKind.wrap .i64 ((i : Int) + 1) = (i : Int) + 1 := wrap64 (by omega) (by omega)
  have d1 := doubled_eq (n := l[i].At - a - g) (by omega)
  have d2 := doubled_eq (n := l[i].Value - v) (by omega)
  have t1 := turned_eq (n := l[i].At - a - g) (by omega)
  have t2 := turned_eq (n := l[i].Value - v) (by omega)
  have s1 := sevens_eq z1 (by omega)
  have s2 := sevens_eq z2 (by omega)
  have o1 := seven_o (b := out) z1 (by omega) (by omega)
  have o2 := seven_o (b := out ++ sev 8 (zig ((l[i].At - a) - g))) z2 (by omega) (by rw [List.length_append]; omega)
  have g1 : Nat.ble (out.length + (sev 8 (zig ((l[i].At - a) - g))).length) LIM = true := ble_lim (by omega)
  have g2 : Nat.ble ((out ++ sev 8 (zig ((l[i].At - a) - g))).length + (sev 8 (zig (l[i].Value - v))).length) LIM = true := ble_lim (by rw [List.length_append]; omega)
  refine ⟨?_, ?_, ?_⟩
  · unfold series_pack_x1 series_pack_x2
    simp only [hi', decide_true, cond_true, at_nat hi, Option.bind_some, w1, w2, w3, w4, d1, d2, o1, o2, List.append_assoc]
    by_cases h0 : i = 0
    · have hg0 := hz h0
      subst h0
      simp [hg0]
    · have h0' : 0 < i := by omega
      simp [h0, h0']
  · unfold fleetref2_PackOf_x1 fleetref2_PackOf_x2
    simp only [hi', decide_true, cond_true, at_nat hi, Option.bind_some, w1, w2, w3, w4, t1, t2, s1, s2, gd_true g1, gd_true g2]
    by_cases h0 : i = 0
    · subst h0; simp
    · have h0' : ¬ (i : Int) = 0 := by omega
      simp [h0, h0']
  · unfold fleetref2_PackOf_o0_x1 fleetref2_PackOf_o0_x2
    simp only [hi', decide_true, cond_true, at_nat hi, Option.bind_some, w1, w2, w3, w4, t1, t2, s1, s2, gd_true g1, gd_true g2]
    by_cases h0 : i = 0
    · subst h0; simp
    · have h0' : ¬ (i : Int) = 0 := by omega
      simp [h0, h0']

theorem pack_both {l : List api_Sample} (hb : SBnd l) (hl : l.length ≤ 100000) : series_pack l = some (packed l) ∧ fleetref2_PackOf l = some (packed l) ∧ fleetref2_PackOf_o0 l = some (packed l) := by
  have z : Near 0 := by unfold Near; omega
  have e0 : (sev 8 (l.length : Int)).length ≤ 1000 + 18 * 0 := by have := sev_len 8 (l.length : Int); omega
  refine ⟨?_, ?_, ?_⟩
  · have := pack_go hb hl (series_pack_x1 l) (fun i hi out a g v h1 h2 h3 h4 h5 => (pack_x1 hb hl i hi out a g v h1 h2 h3 h4 h5).1) (fun out a g v => by unfold series_pack_x1; simp) l.length 0 (sev 8 l.length) 0 0 0 (by omega) (by omega) e0 (by omega) z (by omega) (fun _ => rfl)
    rw [show ((0 : Nat) : Int) = 0 from rfl] at this
    unfold series_pack
    rw [wrapU64 (by omega) (by omega), seven_n (by omega) (by omega)]
    simp only [Option.bind_some]
    rw [this]
    simp [packed]
  · have := pack_go hb hl (fleetref2_PackOf_x1 l) (fun i hi out a g v h1 h2 h3 h4 h5 => (pack_x1 hb hl i hi out a g v h1 h2 h3 h4 h5).2.1) (fun out a g v => by unfold fleetref2_PackOf_x1; simp) l.length 0 (sev 8 l.length) 0 0 0 (by omega) (by omega) e0 (by omega) z (by omega) (fun _ => rfl)
    rw [show ((0 : Nat) : Int) = 0 from rfl] at this
    unfold fleetref2_PackOf
    rw [sevens_eq (by omega) (by omega)]
    simp only [Option.bind_some]
    rw [this]
    simp [packed]
  · have := pack_go hb hl (fleetref2_PackOf_o0_x1 l) (fun i hi out a g v h1 h2 h3 h4 h5 => (pack_x1 hb hl i hi out a g v h1 h2 h3 h4 h5).2.2) (fun out a g v => by unfold fleetref2_PackOf_o0_x1; simp) l.length 0 (sev 8 l.length) 0 0 0 (by omega) (by omega) e0 (by omega) z (by omega) (fun _ => rfl)
    rw [show ((0 : Nat) : Int) = 0 from rfl] at this
    unfold fleetref2_PackOf_o0
    rw [sevens_eq (by omega) (by omega)]
    simp only [Option.bind_some]
    rw [this]
    simp [packed]
end Go.Eng
