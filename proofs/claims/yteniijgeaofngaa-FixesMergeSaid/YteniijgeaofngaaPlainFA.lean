/-
Fixes: checks, orders, merging, those of a device.
-/
import Derived.Test.YteniijgeaofngaaPlainSA
import Derived.Test.YteniijgeaofngaaPlainE
import Derived.KernelRfl
namespace Go.Eng
open Go
set_option linter.unusedVariables false
set_option linter.unusedSimpArgs false

/-- Fixes as streams make them. -/
def FB (x : api_Fix) : Prop := (x.Device.length : Int) ≤ 1000 ∧ (-2199023255552 ≤ x.At ∧ x.At ≤ 2199023255552)
def fOrd (a b : api_Fix) : Int := or0 (Lib.compareBytes a.Device b.Device) (cmpI a.At b.At)
theorem fOrd_anti (a b : api_Fix) : fOrd b a = -fOrd a b := by
  unfold fOrd
  rw [cmpB_anti, cmpI_anti, or0_neg]
theorem or2_eq (a b : Int) : cmp_Or_int [a, b] = some (or0 a b) := by
  rw [Or_eq _ (by simp)]
  unfold or0
  by_cases ha : a = 0 <;> by_cases hb : b = 0 <;> simp [ha, hb]
theorem fbyDevice_eq (a b : api_Fix) : place_byDevice a b = some (fOrd a b) := by
  unfold place_byDevice strings_Compare bytealg_CompareString
  simp only [Option.bind_some, cmpInt_eq, or2_eq]
  rfl
theorem FixOrder_eq {a b : api_Fix} (ha : FB a) (hb : FB b) : fleetref2_FixOrder a b = some (fOrd a b) := by
  obtain ⟨_, a1, a2⟩ := ha
  obtain ⟨_, b1, b2⟩ := hb
  unfold fleetref2_FixOrder strings_Compare bytealg_CompareString fOrd
  by_cases h : a.Device = b.Device
  · simp only [h, decide_true, Bool.not_true, cond_false, cmpB_self]
    rw [wrap64 (by omega) (by omega), sign_eq]
    simp only [Option.bind_some, or0, if_true]
    congr 1
    unfold cmpI
    (repeat' split) <;> omega
  · have h0 : Lib.compareBytes a.Device b.Device ≠ 0 := fun h1 => h (cmpB_zero.1 h1)
    simp [h, or0, h0]
theorem fcmp_both : ∀ x y : api_Fix, FB x → FB y → ∃ c, place_byDevice x y = some c ∧ fleetref2_FixOrder x y = some c := fun x y hx hy => ⟨_, fbyDevice_eq x y, FixOrder_eq hx hy⟩
theorem fcmp_ref : ∀ x y : api_Fix, FB x → FB y → ∃ c, fleetref2_FixOrder x y = some c ∧ fleetref2_FixOrder x y = some c := fun x y hx hy => ⟨_, FixOrder_eq hx hy, FixOrder_eq hx hy⟩

/-! ### The library's functions are those for all kinds -/
theorem sort1_eq : slices_SortStableFunc_api_Fix_api_Fix_o0_f1_place_byDevice = gSort place_byDevice := rfl
theorem sort2_eq : slices_SortStableFunc_api_Fix_api_Fix_o0_f1_fleetref2_FixOrder = gSort fleetref2_FixOrder := rfl
def fixE (x y : api_Fix) : Bool := (decide (x.Device = y.Device) && (decide (x.At = y.At) && (decide (x.X = y.X) && (decide (x.Y = y.Y) && (decide (x.Error = y.Error) && true)))))
theorem com1_eq : slices_Compact_api_Fix_api_Fix_o0 = gCom (fun x y => some (fixE x y)) (api_Fix.mk [] 0 0 0 0) := by kernel_rfl
theorem com2_eq : slices_CompactFunc_api_Fix_api_Fix_o0_f1_fleetmake_Stream_Fixes_1 = gCom fleetmake_Stream_Fixes_1 (api_Fix.mk [] 0 0 0 0) := by kernel_rfl

/-! ### Checks -/
theorem isSpot_eq (s : api_Spot) : place_isSpot s = some ((decide (-10000 ≤ s.X) && decide (s.X ≤ 10000)) && (decide (-10000 ≤ s.Y) && decide (s.Y ≤ 10000))) := by
  unfold place_isSpot place_isSpot_x1
  simp only [Out_eq, Option.bind_some]
  by_cases h1 : s.X < -10000 <;> by_cases h2 : 10000 < s.X <;> by_cases h3 : s.Y < -10000 <;> by_cases h4 : 10000 < s.Y <;> simp [h1, h2, h3, h4] <;> omega
theorem SpotFault_eq (s : api_Spot) : fleetref2_SpotFault s = some (cond ((decide (-10000 ≤ s.X) && decide (s.X ≤ 10000)) && (decide (-10000 ≤ s.Y) && decide (s.Y ≤ 10000))) 0 1) := by
  unfold fleetref2_SpotFault fleetref2_SpotFault_x1
  simp only [in_eq, Option.bind_some]
  cases (decide (-10000 ≤ s.X) && decide (s.X ≤ 10000)) <;> cases (decide (-10000 ≤ s.Y) && decide (s.Y ≤ 10000)) <;> rfl
theorem fx2_both (x : api_Fix) : ∃ b, place_CheckFixes_x2 x = some b ∧ fleetref2_FixesFault_x2 x = some b := by
  unfold place_CheckFixes_x2 fleetref2_FixesFault_x2 place_spot fleetref2_spotOf
  simp only [Moment_eq, QMoment_eq, isSpot_eq, SpotFault_eq, Out_eq, in_eq, Option.bind_some]
  cases (decide (0 ≤ x.At) && decide (x.At ≤ 345686399999))
  · exact ⟨true, rfl, rfl⟩
  · cases ((decide (-10000 ≤ x.X) && decide (x.X ≤ 10000)) && (decide (-10000 ≤ x.Y) && decide (x.Y ≤ 10000)))
    · exact ⟨true, rfl, rfl⟩
    · refine ⟨(decide (x.Error < 0) || decide (10000 < x.Error)), rfl, ?_⟩
      show some (!(decide (0 ≤ x.Error) && decide (x.Error ≤ 10000))) = _
      congr 1
      by_cases h1 : x.Error < 0 <;> by_cases h2 : 10000 < x.Error <;> simp [h1, h2] <;> omega
theorem check_both {l : List api_Fix} (hp : All FB l) (hl : l.length ≤ 100000) : ∃ e, place_CheckFixes l = some e ∧ fleetref2_FixesFault l = some e := by
  unfold place_CheckFixes fleetref2_FixesFault
  by_cases h5 : (2000 : Int) < l.length
  · exact ⟨2, by simp [h5], by simp [h5]⟩
  · simp only [h5, decide_false, cond_false]
    obtain ⟨r, e1, e2, _⟩ := loop_two (f := place_CheckFixes_x1 l) (g := fleetref2_FixesFault_x1 l) (fun i : Int => 0 ≤ i ∧ i ≤ l.length) (fun i => ((l.length : Int) - i).toNat) (fun _ => True) (by
      rintro i ⟨i1, i2⟩
      unfold place_CheckFixes_x1 fleetref2_FixesFault_x1
      by_cases hi : i < l.length
      · obtain ⟨x, x1, x2⟩ := at_i (l := l) i1 hi
        have bx := hp x x2
        obtain ⟨b, b1, b2⟩ := fx2_both x
        have hx3 : ∃ c, place_CheckFixes_x3 l i x = some c ∧ fleetref2_FixesFault_x3 l i x = some c := by
          unfold place_CheckFixes_x3 fleetref2_FixesFault_x3
          by_cases h0 : 0 < i
          · have w1 : IntKind.wrap .i64 (i - 1) = i - 1 := wrap64 (by omega) (by omega)
            obtain ⟨y, y1, y2⟩ := at_i (l := l) (n := i - 1) (by omega) (by omega)
            simp only [h0, decide_true, cond_true, w1, y1, Option.bind_some, fbyDevice_eq, FixOrder_eq (hp y y2) bx]
            refine ⟨_, rfl, ?_⟩
            rw [fOrd_anti y x]
            congr 1
            rw [decide_eq_decide]
            omega
          · simp [h0]
        obtain ⟨c, c1, c2⟩ := hx3
        simp only [hi, decide_true, cond_true, x1, Option.bind_some, Key_eq x.Device (by have := bx.1; omega), QKey_eq x.Device (by have := bx.1; omega), b1, b2, c1, c2]
        rw [wrap64 (n := i + 1) (by omega) (by omega)]
        cases keyB x.Device
        · right; exact ⟨_, rfl, rfl, trivial⟩
        · cases b
          · cases c
            · left; exact ⟨i + 1, rfl, rfl, ⟨by omega, by omega⟩, by omega⟩
            · right; exact ⟨_, rfl, rfl, trivial⟩
          · right; exact ⟨_, rfl, rfl, trivial⟩
      · right
        simp only [hi, decide_false, cond_false]
        exact ⟨_, rfl, rfl, trivial⟩) (s := 0) ⟨by omega, by omega⟩
    rw [e1, e2]
    cases r with
    | inl _ => exact ⟨0, rfl, rfl⟩
    | inr e => exact ⟨e, rfl, rfl⟩

/-! ### Merging -/
theorem concat_eq {a b : List api_Fix} (ha : a.length ≤ 1000) (hb : b.length ≤ 1000) : slices_Concat_api_Fix_api_Fix_o0 [a, b] = some (a ++ b) := by
  unfold slices_Concat_api_Fix_api_Fix_o0
  have w1 : IntKind.wrap .i64 ((0 : Int) + a.length) = a.length := by rw [wrap64 (by omega) (by omega)]; omega
  have w2 : IntKind.wrap .i64 ((a.length : Int) + b.length) = (a.length : Int) + b.length := wrap64 (by omega) (by omega)
  have n1 : ¬ (a.length : Int) < 0 := by omega
  have n2 : ¬ (a.length : Int) + b.length < 0 := by omega
  have i1 : IntKind.wrap .i64 ((0 : Int) + 1) = 1 := by decide
  have i2 : IntKind.wrap .i64 ((1 : Int) + 1) = 2 := by decide
  have t0 : at? [a, b] 0 = some a := rfl
  have t1 : at? [a, b] 1 = some b := rfl
  have c0 : (0 : Int) < (([a, b] : List (List api_Fix)).length : Int) := by simp
  have c1 : (1 : Int) < (([a, b] : List (List api_Fix)).length : Int) := by simp
  have c2 : ¬ (2 : Int) < (([a, b] : List (List api_Fix)).length : Int) := by simp
  have l1 : loopO (slices_Concat_api_Fix_api_Fix_o0_x1 [a, b]) (0, 0) = some ((a.length : Int) + b.length) := by
    rw [loop_in (s' := ((a.length : Int), 1)), loop_in (s' := ((a.length : Int) + b.length, 2)), loop_out (r := (a.length : Int) + b.length)]
    · unfold slices_Concat_api_Fix_api_Fix_o0_x1
      simp only [c2, decide_false, cond_false]
    · unfold slices_Concat_api_Fix_api_Fix_o0_x1
      simp only [c1, decide_true, cond_true, t1, Option.bind_some, w2, n2, decide_false, cond_false, i2]
    · unfold slices_Concat_api_Fix_api_Fix_o0_x1
      simp only [c0, decide_true, cond_true, t0, Option.bind_some, w1, n1, decide_false, cond_false, i1]
  have l2 : loopO (slices_Concat_api_Fix_api_Fix_o0_x2 [a, b]) ([], 0) = some (a ++ b) := by
    have g1 : Nat.ble (([] : List api_Fix).length + a.length) LIM = true := ble_lim (by simp; omega)
    have g2 : Nat.ble (a.length + b.length) LIM = true := ble_lim (by omega)
    rw [loop_in (s' := (a, 1)), loop_in (s' := (a ++ b, 2)), loop_out (r := a ++ b)]
    · unfold slices_Concat_api_Fix_api_Fix_o0_x2
      simp only [c2, decide_false, cond_false]
    · unfold slices_Concat_api_Fix_api_Fix_o0_x2
      simp only [c1, decide_true, cond_true, t1, Option.bind_some, gd_true g2, i2]
    · unfold slices_Concat_api_Fix_api_Fix_o0_x2
      simp only [c0, decide_true, cond_true, t0, Option.bind_some, gd_true g1, i1, List.nil_append]
  have g : slices_Grow_api_Fix_api_Fix_n0 ((a.length : Int) + b.length) = some [] := by
    unfold slices_Grow_api_Fix_api_Fix_n0 slices_Grow_api_Fix_api_Fix_n0_x1
    have w3 : IntKind.wrap .i64 ((0 : Int) - 0) = 0 := by decide
    have w4 : IntKind.wrap .i64 ((a.length : Int) + b.length - 0) = (a.length : Int) + b.length := by rw [wrap64 (by omega) (by omega)]; omega
    simp only [n2, decide_false, cond_false, w3, w4]
    by_cases hz : (0 : Int) < (a.length : Int) + b.length
    · have h1 : (decide (0 ≤ (a.length : Int) + b.length) && decide ((a.length : Int) + b.length ≤ 137438953472)) = true := by simp; omega
      simp only [hz, decide_true, cond_true, gd_true h1]
      rw [gd_true (by simp; omega)]
      simp
    · simp [hz]
  rw [l1]
  simp only [Option.bind_some, g, l2]

theorem pairs_go {l : List api_Fix} (hp : All FB l) (hl : l.length ≤ 100000) : ∃ r, loopO (place_Merge_x1 l) 1 = some r ∧ loopO (fleetref2_FixesOf_x1 l) 0 = some r := by
  have key : 1 ≤ (l.length : Int) → ∃ r, loopO (place_Merge_x1 l) 1 = some r ∧ loopO (fleetref2_FixesOf_x1 l) 1 = some r ∧ True := by
    intro h1
    refine loop_two (fun i : Int => 1 ≤ i ∧ i ≤ l.length) (fun i => ((l.length : Int) - i).toNat) _ ?_ ⟨by omega, by omega⟩
    rintro i ⟨i1, i2⟩
    unfold place_Merge_x1 fleetref2_FixesOf_x1 fleetref2_FixesOf_x2
    by_cases hi : i < l.length
    · have w1 : IntKind.wrap .i64 (i - 1) = i - 1 := wrap64 (by omega) (by omega)
      obtain ⟨x, x1, x2⟩ := at_i (l := l) (n := i) (by omega) hi
      obtain ⟨y, y1, y2⟩ := at_i (l := l) (n := i - 1) (by omega) (by omega)
      have h0 : 0 < i := by omega
      simp only [hi, h0, decide_true, cond_true, w1, x1, y1, Option.bind_some, fbyDevice_eq, FixOrder_eq (hp y y2) (hp x x2)]
      rw [wrap64 (n := i + 1) (by omega) (by omega)]
      cases decide (fOrd y x = 0)
      · left; exact ⟨i + 1, rfl, rfl, ⟨by omega, by omega⟩, by omega⟩
      · right; exact ⟨_, rfl, rfl, trivial⟩
    · right
      simp only [hi, decide_false, cond_false]
      exact ⟨_, rfl, rfl, trivial⟩
  by_cases h0 : (0 : Int) < l.length
  · obtain ⟨r, e1, e2, _⟩ := key (by omega)
    refine ⟨r, e1, ?_⟩
    rw [loopO_eq]
    have : fleetref2_FixesOf_x1 l 0 = some (.inl 1) := by
      unfold fleetref2_FixesOf_x1 fleetref2_FixesOf_x2
      simp only [h0, decide_true, cond_true]
      rfl
    rw [this]
    exact e2
  · have h1 : ¬ (1 : Int) < l.length := by omega
    refine ⟨.inl (), ?_, ?_⟩
    · exact loop_out (by unfold place_Merge_x1; simp only [h1, decide_false, cond_false])
    · exact loop_out (by unfold fleetref2_FixesOf_x1; simp only [h0, decide_false, cond_false])

theorem first2 (a b : Int) : base_First [a, b] = some (or0 a b) := by
  unfold base_First
  have t0 : at? [a, b] 0 = some a := rfl
  have t1 : at? [a, b] 1 = some b := rfl
  have i1 : IntKind.wrap .i64 ((0 : Int) + 1) = 1 := by decide
  have i2 : IntKind.wrap .i64 ((1 : Int) + 1) = 2 := by decide
  have c0 : (0 : Int) < (([a, b] : List Int).length : Int) := by simp
  have c1 : (1 : Int) < (([a, b] : List Int).length : Int) := by simp
  have c2 : ¬ (2 : Int) < (([a, b] : List Int).length : Int) := by simp
  unfold or0
  by_cases ha : a = 0
  · rw [loop_in (s' := (1 : Int))]
    · by_cases hb : b = 0
      · rw [loop_in (s' := (2 : Int)), loop_out (r := .inl ())]
        · simp [ha, hb]
        · unfold base_First_x1
          simp only [c2, decide_false, cond_false]
        · unfold base_First_x1
          subst ha; subst hb
          simp only [c1, decide_true, cond_true, t1, Option.bind_some, Bool.not_true, cond_false, i2]
      · rw [loop_out (r := .inr b)]
        · simp [ha]
        · unfold base_First_x1
          simp only [c1, decide_true, cond_true, t1, Option.bind_some, hb, decide_false, Bool.not_false]
    · unfold base_First_x1
      subst ha
      simp only [c0, decide_true, cond_true, t0, Option.bind_some, Bool.not_true, cond_false, i1]
  · rw [loop_out (r := .inr a)]
    · simp [ha]
    · unfold base_First_x1
      simp only [c0, decide_true, cond_true, t0, Option.bind_some, ha, decide_false, Bool.not_false]

theorem merge_both {a b : List api_Fix} (ha : All FB a) (hb : All FB b) (la : a.length ≤ 8) (lb : b.length ≤ 8) :
    ∃ r e e1 e2, place_Merge a b = some (r, e) ∧ place_CheckFixes a = some e1 ∧ place_CheckFixes b = some e2 ∧ fleetref2_FixesFault a = some e1 ∧ fleetref2_FixesFault b = some e2 ∧
      (or0 e1 e2 ≠ 0 → r = [] ∧ e = or0 e1 e2) ∧ (or0 e1 e2 = 0 → fleetref2_FixesOf a b = some (r, e)) ∧ r.length ≤ 1000 := by
  obtain ⟨e1, p1, p2⟩ := check_both ha (by omega)
  obtain ⟨e2, q1, q2⟩ := check_both hb (by omega)
  unfold place_Merge fleetref2_FixesOf
  rw [p1, q1, concat_eq (by omega) (by omega), sort1_eq, sort2_eq, com1_eq]
  simp only [Option.bind_some, first2]
  by_cases h0 : or0 e1 e2 = 0
  · have hab : All FB (a ++ b) := fun x hx => by
      rcases List.mem_append.1 hx with hx | hx
      · exact ha x hx
      · exact hb x hx
    obtain ⟨s, s1, s2, s3, s4⟩ := gSort_both fcmp_both (l := a ++ b) (by simp; omega) hab
    have hlen : (s.length == (a ++ b).length) = true := by simp only [s3]; simp
    have sl : s.length ≤ 16 := by rw [s3]; simp; omega
    obtain ⟨c, c1, c2, c3⟩ := gCom_ok (t := fun x y => some (fixE x y)) (fun x y _ _ => ⟨_, rfl⟩) (z := api_Fix.mk [] 0 0 0 0) (l := s) (by omega) s4
    obtain ⟨r, r1, r2⟩ := pairs_go c3 (by omega)
    have hn : ¬ (2000 : Int) < (c.length : Int) := by omega
    simp only [h0, decide_true, Bool.not_true, cond_false, s1, s2, Option.bind_some, gd_true hlen, c1, r1, r2]
    cases r with
    | inl _ => exact ⟨c, 0, e1, e2, by simp [hn], rfl, rfl, p2, q2, fun h => absurd h0 h, fun _ => by simp [hn], by omega⟩
    | inr _ => exact ⟨[], 13, e1, e2, by simp, rfl, rfl, p2, q2, fun h => absurd h0 h, fun _ => by simp, by simp⟩
  · simp only [h0, decide_false, Bool.not_false, cond_true]
    exact ⟨[], or0 e1 e2, e1, e2, rfl, rfl, rfl, p2, q2, fun _ => ⟨rfl, rfl⟩, fun h => absurd h h0, by simp⟩

/-! ### Those of a device -/
def ofD (d : List UInt8) (l : List api_Fix) : List api_Fix := l.filter fun x => decide (x.Device = d)
theorem of_go {l : List api_Fix} (d : List UInt8) (hl : l.length ≤ 100000) : loopO (place_Of_x1 l d) ([], 0) = some (ofD d l) := by
  have := (gather_loop (l := l) (f := place_Of_x1 l d) (fun (s : List api_Fix) i => (s, i)) (fun s x => cond (decide (x.Device = d)) (s ++ [x]) s) id (fun i s => s.length ≤ i) (s0 := []) (by omega) (fun i hi s hs => by
    unfold place_Of_x1 place_Of_x2
    have : ((i : Int) < l.length) := by omega
    simp only [this, decide_true, cond_true, at_nat hi, Option.bind_some]
    cases decide (l[i].Device = d) with
    | true =>
      simp only [cond_true]
      rw [gd_true (ble_lim (by simp; omega))]
      exact ⟨rfl, by simp; omega⟩
    | false => exact ⟨rfl, by simp only [cond_false]; omega⟩) (fun s _ => by unfold place_Of_x1; simp) (by simp)).1
  rw [this]
  have hf : ∀ (l s : List api_Fix), l.foldl (fun s x => cond (decide (x.Device = d)) (s ++ [x]) s) s = s ++ ofD d l := by
    intro l
    induction l with
    | nil => intro s; simp [ofD]
    | cons x l ih =>
      intro s
      rw [List.foldl_cons, ih]
      unfold ofD
      rw [List.filter_cons]
      cases decide (x.Device = d) <;> simp
  rw [hf]
  rfl
theorem clone_eq {l : List api_Fix} (h : l.length ≤ 100000) : slices_Clone_api_Fix_api_Fix l = some l := by
  unfold slices_Clone_api_Fix_api_Fix
  rw [gd_true (ble_lim (by simp; omega))]

theorem delIdx {l : List api_Fix} (d : List UInt8) (hl : l.length ≤ 100000) :
    (slices_IndexFunc_api_Fix_api_Fix_f1_fleetlaw2_FixesMerge_1 l d = some (-1) ∧ ∀ x ∈ l, x.Device = d) ∨
    ∃ i : Nat, slices_IndexFunc_api_Fix_api_Fix_f1_fleetlaw2_FixesMerge_1 l d = some (i : Int) ∧ ∃ h : i < l.length, l[i].Device ≠ d ∧ ∀ j (hj : j < i), (l[j]'(by omega)).Device = d := by
  unfold slices_IndexFunc_api_Fix_api_Fix_f1_fleetlaw2_FixesMerge_1
  have key : ∀ (n k : Nat), l.length - k = n → ∀ (hk0 : k ≤ l.length), (∀ j (hj : j < k), (l[j]'(by omega)).Device = d) →
      (loopO (slices_IndexFunc_api_Fix_api_Fix_f1_fleetlaw2_FixesMerge_1_x1 l d) (k : Int) = some (.inl ()) ∧ ∀ x ∈ l, x.Device = d) ∨
      ∃ i : Nat, loopO (slices_IndexFunc_api_Fix_api_Fix_f1_fleetlaw2_FixesMerge_1_x1 l d) (k : Int) = some (.inr (i : Int)) ∧ ∃ h : i < l.length, l[i].Device ≠ d ∧ ∀ j (hj : j < i), (l[j]'(by omega)).Device = d := by
    intro n
    induction n with
    | zero =>
      intro k h1 h2 h3
      left
      have hk : ¬ (k : Int) < l.length := by omega
      refine ⟨by rw [loopO_eq]; unfold slices_IndexFunc_api_Fix_api_Fix_f1_fleetlaw2_FixesMerge_1_x1; simp [hk], fun x hx => ?_⟩
      obtain ⟨j, hj, rfl⟩ := List.mem_iff_getElem.1 hx
      exact h3 j (by omega)
    | succ n ih =>
      intro k h1 h2 h3
      have hk : k < l.length := by omega
      have hk' : (k : Int) < l.length := by omega
      by_cases hd : l[k].Device = d
      · have := ih (k + 1) (by omega) (by omega) (fun j hj => by
          by_cases hjk : j = k
          · subst hjk; exact hd
          · exact h3 j (by omega))
        have e : loopO (slices_IndexFunc_api_Fix_api_Fix_f1_fleetlaw2_FixesMerge_1_x1 l d) (k : Int) = loopO (slices_IndexFunc_api_Fix_api_Fix_f1_fleetlaw2_FixesMerge_1_x1 l d) ((k + 1 : Nat) : Int) := by
          rw [loopO_eq]
          have : slices_IndexFunc_api_Fix_api_Fix_f1_fleetlaw2_FixesMerge_1_x1 l d (k : Int) = some (.inl ((k + 1 : Nat) : Int)) := by
            unfold slices_IndexFunc_api_Fix_api_Fix_f1_fleetlaw2_FixesMerge_1_x1 fleetlaw2_FixesMerge_1
            simp only [hk', decide_true, cond_true, at_nat hk, Option.bind_some, hd, Bool.not_true, cond_false]
            rw [wrap64 (by omega) (by omega)]
            rfl
          rw [this]
          rfl
        rw [e]
        exact this
      · right
        refine ⟨k, ?_, hk, hd, h3⟩
        rw [loopO_eq]
        have : slices_IndexFunc_api_Fix_api_Fix_f1_fleetlaw2_FixesMerge_1_x1 l d (k : Int) = some (.inr (.inr (k : Int))) := by
          unfold slices_IndexFunc_api_Fix_api_Fix_f1_fleetlaw2_FixesMerge_1_x1 fleetlaw2_FixesMerge_1
          simp only [hk', decide_true, cond_true, at_nat hk, Option.bind_some, hd, decide_false, Bool.not_false]
        rw [this]
        rfl
  rcases key l.length 0 (by omega) (by omega) (fun j hj => by omega) with ⟨h1, h2⟩ | ⟨i, h1, h2⟩
  · left
    rw [show ((0 : Nat) : Int) = 0 from rfl] at h1
    rw [h1]
    exact ⟨rfl, h2⟩
  · right
    rw [show ((0 : Nat) : Int) = 0 from rfl] at h1
    rw [h1]
    exact ⟨i, rfl, h2⟩

theorem del_eq {l : List api_Fix} (d : List UInt8) (hl : l.length ≤ 100000) : slices_DeleteFunc_api_Fix_api_Fix_o0_f1_fleetlaw2_FixesMerge_1 l d = some (ofD d l) := by
  unfold slices_DeleteFunc_api_Fix_api_Fix_o0_f1_fleetlaw2_FixesMerge_1
  rcases delIdx d hl with ⟨h1, h2⟩ | ⟨i, h1, hi, h2, h3⟩
  · rw [h1]
    simp only [Option.bind_some, decide_true, cond_true]
    congr 1
    unfold ofD
    rw [List.filter_eq_self.2]
    intro x hx
    simpa using h2 x hx
  · rw [h1]
    have hn : ¬ ((i : Int) = -1) := by omega
    simp only [Option.bind_some, hn, decide_false, cond_false]
    rw [wrap64 (by omega) (by omega)]
    have key : Ok (loopO (slices_DeleteFunc_api_Fix_api_Fix_o0_f1_fleetlaw2_FixesMerge_1_x1 d) (l, (i : Int), (i : Int) + 1)) (fun q => q.1.length = l.length ∧ ∃ k : Nat, q.2 = (k : Int) ∧ k ≤ l.length ∧ q.1.take k = ofD d l) := by
      refine loop_ok (fun q : List api_Fix × Int × Int => q.1.length = l.length ∧ ∃ k j : Nat, q.2.1 = (k : Int) ∧ q.2.2 = (j : Int) ∧ k < j ∧ j ≤ l.length ∧ q.1.take k = ofD d (l.take j) ∧ q.1.drop j = l.drop j) (fun q => ((l.length : Int) - q.2.2).toNat) ?_ ?_
      · rintro ⟨m, k', j'⟩ ⟨m1, k, j, e1, e2, kj, jl, m2, m3⟩
        simp only at m1 e1 e2 m2 m3
        subst e1 e2
        unfold slices_DeleteFunc_api_Fix_api_Fix_o0_f1_fleetlaw2_FixesMerge_1_x1
        refine .cond (fun hj => ?_) (fun hj => ?_)
        · have hj : (j : Int) < m.length := by simpa using hj
          have hjl : j < l.length := by omega
          have hjm : j < m.length := by omega
          have hmj : m[j] = l[j] := by
            have a1 := List.getElem?_drop (xs := m) (i := j) (j := 0)
            have a2 := List.getElem?_drop (xs := l) (i := j) (j := 0)
            rw [m3, a2] at a1
            simp only [Nat.add_zero, List.getElem?_eq_getElem hjl, List.getElem?_eq_getElem hjm] at a1
            injection a1 with a1
            exact a1.symm
          have hof : ofD d (l.take (j + 1)) = ofD d (l.take j) ++ ofD d [l[j]] := by
            unfold ofD
            rw [List.take_succ_eq_append_getElem hjl, List.filter_append]
          have hdr : ∀ m' : List api_Fix, m'.drop j = m.drop j → m'.drop (j + 1) = l.drop (j + 1) := by
            intro m' h
            have := congrArg (List.drop 1) (h.trans m3)
            simpa [List.drop_drop, Nat.add_comm] using this
          unfold slices_DeleteFunc_api_Fix_api_Fix_o0_f1_fleetlaw2_FixesMerge_1_x2 fleetlaw2_FixesMerge_1
          simp only [at_nat hjm, Option.bind_some, hmj, Bool.not_not, at_nat (l := m) (n := k) (by omega)]
          rw [wrap64 (n := (j : Int) + 1) (by omega) (by omega), wrap64 (n := (k : Int) + 1) (by omega) (by omega)]
          by_cases hd : l[j].Device = d
          · simp only [hd, decide_true, cond_true, Option.bind_some]
            refine .some ⟨⟨by simp [m1], k + 1, j + 1, by simp, by simp, by omega, by omega, ?_, ?_⟩, by simp only; omega⟩
            · simp only [Int.toNat_natCast]
              rw [hof, ← m2]
              have e3 : ofD d [l[j]] = [l[j]] := by simp [ofD, hd]
              rw [e3, List.take_succ_eq_append_getElem (by simp; omega)]
              congr 1
              · rw [List.take_set_of_le (by omega)]
              · simp
            · refine hdr _ ?_
              simp only [Int.toNat_natCast]
              rw [List.drop_set_of_lt (by omega)]
          · simp only [hd, decide_false, cond_false, Option.bind_some]
            refine .some ⟨⟨m1, k, j + 1, rfl, by simp, by omega, by omega, ?_, hdr m rfl⟩, by simp only; omega⟩
            rw [hof, m2]
            simp [ofD, hd]
        · have hj : ¬ (j : Int) < m.length := by simpa using hj
          refine .some ⟨m1, k, rfl, by omega, ?_⟩
          have : j = l.length := by omega
          subst this
          rw [List.take_length] at m2
          exact m2
      · refine ⟨rfl, i, i + 1, rfl, by simp, by omega, by omega, ?_, rfl⟩
        simp only
        unfold ofD
        rw [List.take_succ_eq_append_getElem hi, List.filter_append]
        have e1 : List.filter (fun x => decide (x.Device = d)) (l.take i) = l.take i := by
          rw [List.filter_eq_self]
          intro x hx
          obtain ⟨j, hj, rfl⟩ := List.mem_iff_getElem.1 hx
          have hj' : j < i := by simp at hj; omega
          have := h3 j hj'
          simpa using this
        rw [e1]
        simp [h2]
    obtain ⟨⟨m, k'⟩, e, m1, k, e2, k1, k2⟩ := key
    simp only at m1 e2 k2
    subst e2
    rw [e]
    simp only [Option.bind_some, Int.toNat_natCast]
    rw [gd_true (by simp; omega), gd_true (by simp; omega), take_part (by omega), k2]

theorem of_both {l : List api_Fix} (d : List UInt8) (hd : (d.length : Int) ≤ 1000) (hl : l.length ≤ 1000) {e : Int} (he : place_CheckFixes l = some e) :
    place_Of l d = some (cond (decide (or0 e (cond (keyB d) 0 5) = 0)) (ofD d l) [], or0 e (cond (keyB d) 0 5)) := by
  unfold place_Of
  rw [he, Key_eq _ (by omega), of_go d (by omega)]
  unfold or0
  by_cases h0 : e = 0
  · cases keyB d <;> simp [h0]
  · simp [h0]

theorem fequal_self {l : List api_Fix} (hl : (l.length : Int) ≤ 9223372036854775807) : slices_Equal_api_Fix_api_Fix l l = some true := by
  unfold slices_Equal_api_Fix_api_Fix
  simp only [decide_true, Bool.not_true, cond_false]
  rw [range_loop (l := l) (fun _ _ => none) (.inl ()) hl]
  · simp only [Option.bind_some]
    have : scan (fun (_ : Nat) (_ : api_Fix) => (none : Option (Unit ⊕ Unit))) 0 l = none := scan_none.2 fun _ _ _ => rfl
    rw [this]
    rfl
  · intro i hi
    unfold slices_Equal_api_Fix_api_Fix_x1
    have : ((i : Int) < l.length) := by omega
    simp only [this, decide_true, cond_true, at_nat hi, Option.bind_some, Bool.and_self, Bool.not_true, cond_false]
  · unfold slices_Equal_api_Fix_api_Fix_x1
    simp
theorem placed_eq : fleetlaw2_placed = some true := by kernel_rfl
end Go.Eng
