/-
Series are packed and unpacked.
-/
import Derived.Test.YtjfpceigbgnjgaaPlainV
import Derived.Test.YtjfpceigbgnjgaaPlainI
namespace Go.Eng
open Go
set_option linter.unusedVariables false
set_option linter.unusedSimpArgs false

theorem halved_zig {n : Int} (h : -4398046511104000 ≤ n ∧ n ≤ 4398046511104000) : series_halved (zig n) = some n ∧ fleetref2_back (zig n) = some n := by
  have h0 := zig_nonneg n
  have h1 := zig_le h
  unfold series_halved fleetref2_back
  rw [Int.tmod_eq_emod_of_nonneg h0, Int.tdiv_eq_ediv_of_nonneg h0]
  rw [wrapU64 (n := zig n / 2) (by omega) (by omega), wrap64 (n := zig n / 2) (by omega) (by omega), wrap64 (n := 0 - zig n / 2) (by omega) (by omega), wrap64 (n := 0 - zig n / 2 - 1) (by omega) (by omega), wrap64 (n := zig n + 1) (by omega) (by omega), wrap64 (n := 0 - (zig n + 1)) (by omega) (by omega)]
  have e : (0 - (zig n + 1)).tdiv 2 = -((zig n + 1) / 2) := by
    rw [Int.zero_sub, Int.neg_tdiv, Int.tdiv_eq_ediv_of_nonneg (by omega)]
  rw [e]
  have h2 : zig n / 2 ≤ 4398046511104000 := by omega
  by_cases hz : zig n % 2 = 1
  · rw [wrap64 (by omega) (by omega)]
    simp only [hz, decide_true, cond_true]
    unfold zig at hz ⊢
    constructor
    · congr 1; split at hz <;> rename_i hn <;> simp only [hn, if_true, if_false] <;> omega
    · congr 1; split at hz <;> rename_i hn <;> simp only [hn, if_true, if_false] <;> omega
  · simp only [hz, decide_false, cond_false]
    unfold zig at hz ⊢
    constructor
    · congr 1; split at hz <;> rename_i hn <;> simp only [hn, if_true, if_false] <;> omega
    · congr 1; split at hz <;> rename_i hn <;> simp only [hn, if_true, if_false] <;> omega
theorem halved_ok (n : Int) : Ok (series_halved n) (fun _ => True) := .cond (fun _ => .some trivial) (fun _ => .some trivial)
theorem back_ok (n : Int) : Ok (fleetref2_back n) (fun _ => True) := .cond (fun _ => .some trivial) (fun _ => .some trivial)

/-- All of one device and one metric. -/
def Of (d m : List UInt8) (l : List api_Sample) : Prop := ∀ x ∈ l, x.Device = d ∧ x.Metric = m

theorem unpack_go {l : List api_Sample} {d m : List UInt8} (hr : Right l) (ho : Of d m l) :
    ∀ (k i : Nat) (a g v : Int), l.length - i = k → i ≤ l.length → -2199023255552 ≤ a ∧ a ≤ 2199023255552 → Near g → -2199023255552 ≤ v ∧ v ≤ 2199023255552 → (i = 0 → g = 0) →
      loopO (series_Unpack_x3 d m l.length) (body a g v (decide (i = 0)) (l.drop i), l.take i, a, g, v, i) = some (.inl l) ∧
      loopO (fleetref2_UnpackOf_x1 d m l.length) (body a g v (decide (i = 0)) (l.drop i), true, l.take i, a, g, v, i) = some (true, l) := by
  intro k
  induction k with
  | zero =>
    intro i a g v hk hi ha hg hv hz
    have hlen := hr.len
    have : i = l.length := by omega
    subst this
    have e : IntKind.wrap .i64 (l.length : Int) = l.length := wrap64 (by omega) (by omega)
    constructor
    · rw [loopO_eq]
      unfold series_Unpack_x3
      simp [e]
    · rw [loopO_eq]
      unfold fleetref2_UnpackOf_x1 fleetref2_UnpackOf_x2
      simp
  | succ k ih =>
    intro i a g v hk hi ha hg hv hz
    have hlen := hr.len
    have hil : i < l.length := by omega
    obtain ⟨b1, b2⟩ := hr.bnd i hil
    obtain ⟨o1, o2⟩ := ho _ (List.getElem_mem hil)
    unfold Near at hg
    have e : IntKind.wrap .i64 (l.length : Int) = l.length := wrap64 (by omega) (by omega)
    have hi' : (i : Int) < l.length := by omega
    have z1 := zig_nonneg ((l[i].At - a) - g)
    have z2 := zig_nonneg (l[i].Value - v)
    have y1 := zig_le (n := (l[i].At - a) - g) (m := 8796093022208) (by omega)
    have y2 := zig_le (n := l[i].Value - v) (m := 4398046511104) (by omega)
    have hd : body a g v (decide (i = 0)) (l.drop i) = sev 8 (zig ((l[i].At - a) - g)) ++ (sev 8 (zig (l[i].Value - v)) ++ body l[i].At (if i = 0 then 0 else l[i].At - a) l[i].Value false (l.drop (i + 1))) := by
      rw [drop_get hil]
      simp only [body]
      by_cases h0 : i = 0 <;> simp [h0]
    have r1 := read_sv z1 (by omega) (sev 8 (zig (l[i].Value - v)) ++ body l[i].At (if i = 0 then 0 else l[i].At - a) l[i].Value false (l.drop (i + 1)))
    have r2 := read_sv z2 (by omega) (body l[i].At (if i = 0 then 0 else l[i].At - a) l[i].Value false (l.drop (i + 1)))
    have q1 := halved_zig (n := (l[i].At - a) - g) (by omega)
    have q2 := halved_zig (n := l[i].Value - v) (by omega)
    have w1 : IntKind.wrap .i64 (v + (l[i].Value - v)) = l[i].Value := by rw [wrap64 (by omega) (by omega)]; omega
    have w2 : IntKind.wrap .i64 (g + (l[i].At - a - g)) = l[i].At - a := by rw [wrap64 (by omega) (by omega)]; omega
    have w2' : IntKind.wrap .i64 (l[i].At - a - g + g) = l[i].At - a := by rw [wrap64 (by omega) (by omega)]; omega
    have w3 : IntKind.wrap .i64 (a + (l[i].At - a)) = l[i].At := by rw [wrap64 (by omega) (by omega)]; omega
    have w4 : IntKind.wrap .i64 ((i : Int) + 1) = (i : Int) + 1 := wrap64 (by omega) (by omega)
    have es : api_Sample.mk d m l[i].At l[i].Value = l[i] := by rw [← o1, ← o2]
    have et : l.take i ++ [l[i]] = l.take (i + 1) := (List.take_append_getElem hil)
    have gl : Nat.ble ((l.take i).length + ([l[i]] : List api_Sample).length) LIM = true := ble_lim (by simp; omega)
    have n1 : ¬ l[i].Value < -1000000000 := by omega
    have n2 : ¬ 1000000000 < l[i].Value := by omega
    have n3 : 0 ≤ l[i].At := by omega
    have n4 : l[i].At ≤ 345686399999 := by omega
    have n5 : (i : Int) ≤ 5000 := by omega
    have n6 : -1000000000 ≤ l[i].Value := by omega
    have n7 : l[i].Value ≤ 1000000000 := by omega
    obtain ⟨i1, i2⟩ := ih (i + 1) l[i].At (if i = 0 then 0 else l[i].At - a) l[i].Value (by omega) (by omega) (by omega) (by unfold Near; split <;> omega) (by omega) (by omega)
    have ef : decide (i + 1 = 0) = false := by simp
    rw [ef, show ((i + 1 : Nat) : Int) = (i : Int) + 1 by omega] at i1 i2
    rw [hd]
    constructor
    · rw [loopO_eq, ← i1]
      have : series_Unpack_x3 d m l.length (sev 8 (zig ((l[i].At - a) - g)) ++ (sev 8 (zig (l[i].Value - v)) ++ body l[i].At (if i = 0 then 0 else l[i].At - a) l[i].Value false (l.drop (i + 1))), l.take i, a, g, v, i) = some (.inl (body l[i].At (if i = 0 then 0 else l[i].At - a) l[i].Value false (l.drop (i + 1)), l.take (i + 1), l[i].At, (if i = 0 then 0 else l[i].At - a), l[i].Value, (i : Int) + 1)) := by
        unfold series_Unpack_x3 series_Unpack_x4 series_Unpack_x5 series_Unpack_x6
        simp only [e, hi', decide_true, cond_true, r1.1, Option.bind_some, r2.1, Bool.not_true, cond_false, q1.1, q2.1, w1, w2, w3, w4, Out_eq, Moment_eq, n1, n2, n3, n4, decide_false, Bool.or_self, Bool.and_self, es, gl, gd_true, et]
        by_cases h0 : i = 0
        · have hg0 := hz h0
          subst h0
          simp [hg0]
        · have h0' : 0 < i := by omega
          simp [h0, h0']
      rw [this]
      rfl
    · rw [loopO_eq, ← i2]
      have : fleetref2_UnpackOf_x1 d m l.length (sev 8 (zig ((l[i].At - a) - g)) ++ (sev 8 (zig (l[i].Value - v)) ++ body l[i].At (if i = 0 then 0 else l[i].At - a) l[i].Value false (l.drop (i + 1))), true, l.take i, a, g, v, i) = some (.inl (body l[i].At (if i = 0 then 0 else l[i].At - a) l[i].Value false (l.drop (i + 1)), true, l.take (i + 1), l[i].At, (if i = 0 then 0 else l[i].At - a), l[i].Value, (i : Int) + 1)) := by
        unfold fleetref2_UnpackOf_x1 fleetref2_UnpackOf_x2 fleetref2_UnpackOf_x3 fleetref2_UnpackOf_x4
        simp only [hi', n5, decide_true, cond_true, r1.2, Option.bind_some, r2.2, Bool.not_true, cond_false, q1.2, q2.2, w1, w2', w3, w4, in_eq, QMoment_eq, n6, n7, n3, n4, decide_false, Bool.or_self, Bool.and_self, es, gl, gd_true, et]
        by_cases h0 : i = 0
        · subst h0
          simp
        · have h0' : ¬ (i : Int) = 0 := by omega
          simp [h0, h0']
      rw [this]
      rfl

theorem unpack_packed {l : List api_Sample} {d m : List UInt8} (hr : Right l) (ho : Of d m l) :
    (∃ r, series_unseven (packed l) = some ((l.length : Int), r, true) ∧ loopO (series_Unpack_x3 d m l.length) (r, [], 0, 0, 0, 0) = some (.inl l)) ∧
    (∃ r, fleetref2_takeSeven (packed l) = some ((l.length : Int), r, true) ∧ loopO (fleetref2_UnpackOf_x1 d m l.length) (r, true, [], 0, 0, 0, 0) = some (true, l)) := by
  have hlen := hr.len
  have r := read_sv (n := (l.length : Int)) (by omega) (by omega) (body 0 0 0 true l)
  have z : Near 0 := by unfold Near; omega
  obtain ⟨a, b⟩ := unpack_go hr ho l.length 0 0 0 0 (by omega) (by omega) (by omega) z (by omega) (fun _ => rfl)
  exact ⟨⟨_, r.1, a⟩, ⟨_, r.2, b⟩⟩

theorem wrapU64_nonneg (n : Int) : 0 ≤ IntKind.wrap .u64 n := by
  unfold IntKind.wrap
  simp [IntKind.min, IntKind.max, IntKind.bits, IntKind.signed]
  omega
theorem or64_nonneg (a b : Int) : 0 ≤ ibits .or .u64 a b := by unfold ibits; exact wrapU64_nonneg _
theorem unseven_ok' (b : List Int) (hb : b.length ≤ 1000000) : Ok (series_unseven b) (fun r => r.2.1.length ≤ b.length ∧ 0 ≤ r.1) := by
  obtain ⟨r, h1, h2⟩ := unseven_ok b hb
  refine ⟨r, h1, h2, ?_⟩
  unfold series_unseven at h1
  obtain ⟨x, h3, h4⟩ := bind_some h1
  have : Ok (loopO (series_unseven_x1 b) (0, 0)) (fun x => match x with | .inl _ => True | .inr r => 0 ≤ r.1) := by
    refine loop_ok (fun s : Int × Int => 0 ≤ s.2 ∧ s.2 ≤ 9) (fun s => (10 - s.2).toNat) ?_ ⟨by simp, by simp⟩
    intro ⟨n, x⟩ ⟨h0, h1⟩
    simp only at h0 h1
    unfold series_unseven_x1
    refine .cond (fun h => ?_) (fun _ => .some trivial)
    have hx : x < b.length := by simpa using h
    refine (at_mem h0 hx).bind fun c _ => ?_
    refine .cond (fun _ => .some (by simp)) (fun h9 => ?_)
    have h9' : ¬ x = 9 := by simpa using h9
    have e3 : IntKind.wrap .i64 (7 * x) = 7 * x := wrap64 (by omega) (by omega)
    have e5 : IntKind.wrap .i64 (x + 1) = x + 1 := wrap64 (by omega) (by omega)
    refine .gd (by rw [e3]; simp; omega) (.cond (fun _ => ?_) fun _ => .some ⟨⟨by simp only [e5]; omega, by simp only [e5]; omega⟩, by simp only [e5]; omega⟩)
    have es : sub? b (x + 1) b.length = some (b.drop (x.toNat + 1)) := by
      have := sub_tail (b := b) (i := x.toNat) (by omega)
      rw [show ((x.toNat : Nat) : Int) = x by omega] at this
      exact this
    rw [e5, es]
    exact .some (or64_nonneg _ _)
  obtain ⟨y, h5, h6⟩ := this
  rw [h5] at h3
  injection h3 with h3
  subst h3
  cases y with
  | inl _ => injection h4 with h4; rw [← h4]; simp
  | inr q => injection h4 with h4; rw [← h4]; exact h6

theorem Of.snoc {d m : List UInt8} {l : List api_Sample} (h : Of d m l) (a v : Int) : Of d m (l ++ [api_Sample.mk d m a v]) := by
  intro x hx
  rcases List.mem_append.1 hx with hx | hx
  · exact h x hx
  · rw [List.mem_singleton.1 hx]; exact ⟨rfl, rfl⟩

/-- What comes of unpacking. -/
def Unp (b : List Int) (d m : List UInt8) (r : List api_Sample × Int) : Prop := (r.2 = 9 ∧ r.1 = []) ∨ (r.2 = 0 ∧ SBnd r.1 ∧ Of d m r.1 ∧ seriesV r.1 = 0 ∧ packed r.1 = b)

theorem unpack1_ok {b : List Int} {d m : List UInt8} (hd : (d.length : Int) ≤ 1000) (hm : (m.length : Int) ≤ 1000) (kd : keyB d = true) (km : keyB m = true) (hb : b.length ≤ 100000) : Ok (series_Unpack b d m) (Unp b d m) := by
  unfold series_Unpack series_Unpack_x1
  rw [Key_eq d (by omega), Key_eq m (by omega), kd, km]
  have hb' : ¬ (100000 : Int) < b.length := by omega
  simp only [Option.bind_some, Bool.not_true, cond_false, hb', decide_false]
  refine (unseven_ok' b (by omega)).bind fun ⟨n, r, ok⟩ ⟨h1, h2⟩ => ?_
  simp only at h1 h2
  refine Ok.bind (P := fun x => x = (!ok || decide (5000 < n))) ?_ fun x hx => ?_
  · unfold series_Unpack_x2
    cases ok <;> exact .some (by simp)
  subst hx
  refine .cond (fun _ => .some (.inl ⟨rfl, rfl⟩)) fun hn => ?_
  have hn' : n ≤ 5000 := by
    cases ok <;> simp at hn
    omega
  have en : IntKind.wrap .i64 n = n := wrap64 (by omega) (by omega)
  refine Ok.bind (P := fun x => match x with | .inl l => SBnd l ∧ Of d m l ∧ l.length ≤ 5001 | .inr _ => True) ?_ fun x hx => ?_
  · refine loop_ok (fun s : (List Int) × (List api_Sample) × Int × Int × Int × Int => s.1.length ≤ 100000 ∧ SBnd s.2.1 ∧ Of d m s.2.1 ∧ (s.2.1.length : Int) = s.2.2.2.2.2 ∧ s.2.2.2.2.2 ≤ 5001) (fun s => (6000 - s.2.2.2.2.2).toNat) ?_ ⟨by simp only; omega, by intro x hx; simp at hx, by intro x hx; simp at hx, by simp, by simp⟩
    intro ⟨r, out, a, g, v, i⟩ ⟨i1, i2, i3, i4, i5⟩
    simp only at i1 i2 i3 i4 i5
    unfold series_Unpack_x3
    rw [en]
    refine .cond (fun h => ?_) (fun _ => .some ⟨i2, i3, by omega⟩)
    have hi : i < n := by simpa using h
    refine (unseven_ok' r (by omega)).bind fun ⟨n1, r1, ok1⟩ ⟨h3, h4⟩ => ?_
    simp only at h3 h4
    refine Ok.bind (P := fun x => x.1.length ≤ 100000) ?_ fun ⟨r2, ok2, n2⟩ hr2 => ?_
    · unfold series_Unpack_x4
      refine .cond (fun _ => ?_) (fun _ => .some (by simp only; omega))
      refine (unseven_ok' r1 (by omega)).bind fun ⟨n3, r3, ok3⟩ ⟨h5, h6⟩ => .some (by simp only at h5 ⊢; omega)
    refine .cond (fun _ => .some trivial) fun _ => ?_
    refine (halved_ok _).bind fun p _ => (halved_ok _).bind fun q _ => ?_
    generalize hat : IntKind.wrap .i64 (a + IntKind.wrap .i64 (g + p)) = at'
    generalize hv : IntKind.wrap .i64 (v + q) = v'
    refine Ok.bind (P := fun x => x = (!((decide (-1000000000 ≤ v') && decide (v' ≤ 1000000000)) && (decide (0 ≤ at') && decide (at' ≤ 345686399999))))) ?_ fun x hx => ?_
    · unfold series_Unpack_x5
      rw [hv, hat, Out_eq, Moment_eq]
      simp only [Option.bind_some]
      refine .cond (fun h => .some ?_) (fun h => .some ?_)
      · simp at h
        have : ¬ (-1000000000 ≤ v' ∧ v' ≤ 1000000000) := by omega
        simp
        omega
      · simp at h
        have h1 : -1000000000 ≤ v' := by omega
        have h2 : v' ≤ 1000000000 := by omega
        simp [h1, h2]
    refine .cond (fun _ => .some trivial) fun hx2 => ?_
    rw [hx] at hx2
    simp at hx2
    refine Ok.bind (P := fun _ => True) ?_ fun g2 _ => ?_
    · unfold series_Unpack_x6
      exact .cond (fun _ => .some trivial) (fun _ => .some trivial)
    have w4 : IntKind.wrap .i64 (i + 1) = i + 1 := wrap64 (by omega) (by omega)
    refine .gd (ble_lim (by simp; omega)) (.some ⟨⟨hr2, i2.snoc ⟨hd, hm, by simp only; omega, by simp only; omega⟩, i3.snoc _ _, ?_, ?_⟩, ?_⟩)
    · simp only [w4, List.length_append, List.length_singleton]; omega
    · simp only [w4]; omega
    · simp only [w4]; omega
  · cases x with
    | inr _ => exact .some (.inl ⟨rfl, rfl⟩)
    | inl l =>
      obtain ⟨x1, x2, x3⟩ := hx
      simp only
      unfold series_Unpack_x7
      rw [CheckSeries_eq x1 (by omega), (pack_both x1 (by omega)).1]
      simp only [Option.bind_some]
      have hpl : (packed l).length ≤ 1000000 := by
        have h1 := body_len l 0 0 0 true
        have h2 := sev_len 8 (l.length : Int)
        unfold packed
        rw [List.length_append]; omega
      rw [EqualI_eq (by omega)]
      simp only [Option.bind_some]
      by_cases hs : seriesV l = 0
      · by_cases hp : packed l = b
        · simp only [hs, hp, decide_true, Bool.not_true, cond_false, Option.bind_some]
          exact .some (.inr ⟨rfl, x1, x2, hs, hp⟩)
        · simp only [hs, hp, decide_true, decide_false, Bool.not_true, Bool.not_false, cond_false, cond_true, Option.bind_some]
          exact .some (.inl ⟨rfl, rfl⟩)
      · simp only [hs, decide_false, Bool.not_false, cond_true, Option.bind_some]
        exact .some (.inl ⟨rfl, rfl⟩)

theorem unpack2_ok {b : List Int} {d m : List UInt8} (hd : (d.length : Int) ≤ 1000) (hm : (m.length : Int) ≤ 1000) (hb : b.length ≤ 100000) : Ok (fleetref2_UnpackOf b d m) (Unp b d m) := by
  unfold fleetref2_UnpackOf
  refine (takeSeven_ok b (by omega)).bind fun ⟨n, r, ok⟩ h1 => ?_
  simp only at h1
  refine Ok.bind (P := fun x => x.1 = true → SBnd x.2 ∧ Of d m x.2 ∧ x.2.length ≤ 5001) ?_ fun ⟨ok, l⟩ hx => ?_
  · refine loop_ok (fun s : (List Int) × Bool × (List api_Sample) × Int × Int × Int × Int => s.1.length ≤ 100000 ∧ (s.2.1 = true → SBnd s.2.2.1) ∧ Of d m s.2.2.1 ∧ (s.2.2.1.length : Int) = s.2.2.2.2.2.2 ∧ s.2.2.2.2.2.2 ≤ 5001) (fun s => (6000 - s.2.2.2.2.2.2).toNat) ?_ ⟨by simp only; omega, by intro _ x hx; simp at hx, by intro x hx; simp at hx, by simp, by simp⟩
    intro ⟨r, ok, out, a, g, v, i⟩ ⟨i1, i2, i3, i4, i5⟩
    simp only at i1 i2 i3 i4 i5
    unfold fleetref2_UnpackOf_x1
    refine Ok.bind (P := fun x => x = true → ok = true ∧ i ≤ 5000) ?_ fun x hx => ?_
    · unfold fleetref2_UnpackOf_x2
      refine .cond (fun ho => .cond (fun _ => .some fun h => ⟨ho, by simpa using h⟩) (fun _ => .some (by simp))) (fun _ => .some (by simp))
    refine .cond (fun h => ?_) (fun _ => .some fun hok => ⟨i2 hok, i3, by simp only; omega⟩)
    obtain ⟨hok, hi⟩ := hx h
    have w4 : IntKind.wrap .i64 (i + 1) = i + 1 := wrap64 (by omega) (by omega)
    refine Ok.bind (P := fun x => match x with | .inl y => y.1.length ≤ 100000 ∧ (y.2.1 = true → SBnd y.2.2.1) ∧ Of d m y.2.2.1 ∧ (y.2.2.1.length : Int) = i + 1 | .inr y => y = false) ?_ fun x hx => ?_
    · unfold fleetref2_UnpackOf_x3
      refine (takeSeven_ok r (by omega)).bind fun ⟨n1, r1, ok1⟩ h3 => ?_
      simp only at h3
      refine .cond (fun h => .some (by simpa using h)) fun _ => ?_
      refine (takeSeven_ok r1 (by omega)).bind fun ⟨n2, r2, ok2⟩ h5 => ?_
      simp only at h5
      refine .cond (fun h => .some (by simpa using h)) fun _ => ?_
      refine (back_ok _).bind fun p _ => (back_ok _).bind fun q _ => ?_
      refine Ok.bind (P := fun _ => True) ?_ fun g2 _ => ?_
      · unfold fleetref2_UnpackOf_x4
        exact .cond (fun _ => .some trivial) (fun _ => .some trivial)
      generalize IntKind.wrap .i64 (a + IntKind.wrap .i64 (p + g)) = at'
      generalize IntKind.wrap .i64 (v + q) = v'
      refine .gd (ble_lim (by simp; omega)) ?_
      rw [QMoment_eq]
      refine .cond (fun hM => ?_) fun _ => ?_
      · rw [in_eq]
        simp at hM
        refine .some ⟨by simp only; omega, fun hq => ?_, i3.snoc _ _, by simp; omega⟩
        simp at hq
        exact (i2 hok).snoc ⟨hd, hm, by simp only; omega, by simp only; omega⟩
      · exact .some ⟨by simp only; omega, fun hq => by simp at hq, i3.snoc _ _, by simp; omega⟩
    · cases x with
      | inl y =>
        obtain ⟨y1, y2, y3, y4⟩ := hx
        exact .some ⟨⟨y1, y2, y3, by simp only [w4]; omega, by simp only [w4]; omega⟩, by simp only [w4]; omega⟩
      | inr y =>
        have hy : y = false := hx
        subst hy
        exact .some fun h => by simp at h
  · unfold fleetref2_UnpackOf_x5
    simp only at hx ⊢
    cases ok with
    | false =>
      simp only [Bool.not_false, cond_true, Option.bind_some]
      exact .some (.inl ⟨rfl, rfl⟩)
    | true =>
      obtain ⟨x1, x2, x3⟩ := hx rfl
      rw [SeriesFault_eq x1 (by omega), (pack_both x1 (by omega)).2.1]
      simp only [Option.bind_some, Bool.not_true, cond_false]
      have hpl : (packed l).length ≤ 1000000 := by
        have h1 := body_len l 0 0 0 true
        have h2 := sev_len 8 (l.length : Int)
        unfold packed
        rw [List.length_append]; omega
      rw [EqualI_eq (by omega)]
      simp only [Option.bind_some]
      by_cases hs : seriesV l = 0
      · by_cases hp : packed l = b
        · simp only [hs, hp, decide_true, Bool.not_true, cond_false, Option.bind_some]
          exact .some (.inr ⟨rfl, x1, x2, hs, hp⟩)
        · simp only [hs, hp, decide_true, decide_false, Bool.not_true, Bool.not_false, cond_false, cond_true, Option.bind_some]
          exact .some (.inl ⟨rfl, rfl⟩)
      · simp only [hs, decide_false, Bool.not_false, cond_true, Option.bind_some]
        exact .some (.inl ⟨rfl, rfl⟩)

theorem unpack_both {b : List Int} {d m : List UInt8} (hd : (d.length : Int) ≤ 1000) (hm : (m.length : Int) ≤ 1000) (kd : keyB d = true) (km : keyB m = true) (hb : b.length ≤ 100000) :
    ∃ r, series_Unpack b d m = some r ∧ fleetref2_UnpackOf b d m = some r ∧ r.1.length ≤ 5000 := by
  have fwd : ∀ l, SBnd l → Of d m l → seriesV l = 0 → packed l = b → series_Unpack b d m = some (l, 0) ∧ fleetref2_UnpackOf b d m = some (l, 0) := by
    intro l h1 h2 h3 h4
    have hr := right_of h3
    have hlen := hr.len
    obtain ⟨⟨r, a1, a2⟩, ⟨r', b1, b2⟩⟩ := unpack_packed hr h2
    have hb' : ¬ (100000 : Int) < b.length := by omega
    have n1 : ¬ (5000 : Int) < l.length := by omega
    constructor
    · unfold series_Unpack series_Unpack_x1 series_Unpack_x2 series_Unpack_x7
      rw [Key_eq d (by omega), Key_eq m (by omega), kd, km, ← h4, a1]
      rw [← h4] at hb'
      simp only [Option.bind_some, Bool.not_true, cond_false, hb', decide_false, n1, a2, CheckSeries_eq h1 (show (l.length : Int) ≤ 9223372036854775807 by omega), h3, decide_true, (pack_both h1 (show l.length ≤ 100000 by omega)).1]
      rw [EqualI_self (by rw [h4]; omega)]
      simp
    · unfold fleetref2_UnpackOf fleetref2_UnpackOf_x5
      rw [← h4, b1]
      simp only [Option.bind_some, Bool.not_true, cond_false, decide_false, b2, SeriesFault_eq h1 (show (l.length : Int) ≤ 9223372036854775807 by omega), h3, decide_true, (pack_both h1 (show l.length ≤ 100000 by omega)).2.1]
      rw [EqualI_self (by rw [h4]; omega)]
      simp
  obtain ⟨r1, e1, p1⟩ := unpack1_ok hd hm kd km hb
  obtain ⟨r2, e2, p2⟩ := unpack2_ok (b := b) hd hm hb
  rcases p1 with ⟨c1, c2⟩ | ⟨c1, c2, c3, c4, c5⟩
  · rcases p2 with ⟨d1, d2⟩ | ⟨d1, d2, d3, d4, d5⟩
    · refine ⟨r1, e1, ?_, by rw [c2]; simp⟩
      rw [e2]; congr 1
      exact Prod.ext (by rw [c2, d2]) (by rw [c1, d1])
    · have := fwd r2.1 d2 d3 d4 d5
      exact ⟨_, this.1, this.2, (right_of d4).len⟩
  · have := fwd r1.1 c2 c3 c4 c5
    exact ⟨_, this.1, this.2, (right_of c4).len⟩
end Go.Eng
