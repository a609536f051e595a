/-
Sorting of few elements, and what is left of equal ones, for all kinds of elements.
-/
import Derived.Test.YteniijgeaofngaaPlainC
namespace Go.Eng
open Go
set_option linter.unusedVariables false
set_option linter.unusedSimpArgs false

/-- Two loops side by side, over the same states. -/
theorem loop_two {σ ρ : Type} {f g : σ → Option (σ ⊕ ρ)} (I : σ → Prop) (μ : σ → Nat) (Q : ρ → Prop)
    (step : ∀ s, I s → (∃ s', f s = some (.inl s') ∧ g s = some (.inl s') ∧ I s' ∧ μ s' < μ s) ∨ (∃ r, f s = some (.inr r) ∧ g s = some (.inr r) ∧ Q r)) {s : σ} (h : I s) :
    ∃ r, loopO f s = some r ∧ loopO g s = some r ∧ Q r := by
  generalize hn : μ s = n
  induction n using Nat.strongRecOn generalizing s with
  | _ n ih =>
    rcases step s h with ⟨s', h1, h2, h3, h4⟩ | ⟨r, h1, h2, h3⟩
    · obtain ⟨r, g1, g2, g3⟩ := ih (μ s') (by omega) h3 rfl
      refine ⟨r, ?_, ?_, g3⟩
      · rw [loopO_eq, h1]; exact g1
      · rw [loopO_eq, h2]; exact g2
    · refine ⟨r, ?_, ?_, h3⟩
      · rw [loopO_eq, h1]; rfl
      · rw [loopO_eq, h2]; rfl

theorem loop_in {σ ρ : Type} {f : σ → Option (σ ⊕ ρ)} {s s' : σ} (h : f s = some (.inl s')) : loopO f s = loopO f s' := by rw [loopO_eq, h]; rfl
theorem loop_out {σ ρ : Type} {f : σ → Option (σ ⊕ ρ)} {s : σ} {r : ρ} (h : f s = some (.inr r)) : loopO f s = some r := by rw [loopO_eq, h]; rfl

section
variable {α : Type}
/-! ### Insertion, as the code has it -/
noncomputable def gI3 (cmp : α → α → Option Int) (qa : Int) (vl3 : List α) (vj1 : Int) : Option (Bool) :=
  cond (decide (qa < vj1))
    ((at? vl3 vj1).bind fun vy15 =>
    (at? vl3 (IntKind.wrap .i64 (vj1 - 1))).bind fun vy16 =>
    (cmp vy15 vy16).bind fun vr1_3 =>
    some (decide (vr1_3 < 0)))
    (some false)
noncomputable def gI2 (cmp : α → α → Option Int) (qa : Int) : (List α) × Int → Option (((List α) × Int) ⊕ ((List α)))
  | (vl3, vj1) =>
  (gI3 cmp qa vl3 vj1).bind fun vx4_1 =>
  cond (vx4_1)
    ((at? vl3 (IntKind.wrap .i64 (vj1 - 1))).bind fun vy17 =>
    (at? vl3 vj1).bind fun vy18 =>
    (at? (vl3.set vj1.toNat vy17) (IntKind.wrap .i64 (vj1 - 1))).bind fun vy19 =>
    some (.inl ((vl3.set vj1.toNat vy17).set (IntKind.wrap .i64 (vj1 - 1)).toNat vy18, IntKind.wrap .i64 (vj1 - 1))))
    (some (.inr vl3))
noncomputable def gI1 (cmp : α → α → Option Int) (qa : Int) (qb : Int) : (List α) × Int → Option (((List α) × Int) ⊕ ((List α)))
  | (vl, vi) =>
  cond (decide (vi < qb))
    ((loopO (gI2 cmp qa) (vl, vi)).bind fun vl4_1 =>
    some (.inl (vl4_1, IntKind.wrap .i64 (vi + 1))))
    (some (.inr vl))
noncomputable def gI (cmp : α → α → Option Int) (qdata : List α) (qa : Int) (qb : Int) : Option ((List α)) :=
  (loopO (gI1 cmp qa qb) (qdata, IntKind.wrap .i64 (qa + 1))).bind fun vl5_1 =>
  some vl5_1
noncomputable def gS1 (cmp : α → α → Option Int) (qn : Int) : (List α) × Int × Int → Option (((List α) × Int × Int) ⊕ (((List α) × Int)))
  | (vl, va, vb) =>
  cond (decide (vb ≤ qn))
    ((gI cmp vl va vb).bind fun vl6_1 =>
    gd (vl6_1.length == vl.length) <|
    some (.inl (vl6_1, vb, IntKind.wrap .i64 (vb + 20))))
    (some (.inr (vl, va)))
noncomputable def gS3 (qn : Int) (vblockSize : Int) : Unit → Option ((Unit) ⊕ (Unit))
  | _ =>
  cond (decide ((IntKind.wrap .i64 ((2 : Int) * vblockSize)) ≤ qn))
    (none)
    (some (.inr ()))
noncomputable def gS2 (qn : Int) (vblockSize : Int) : Option ((Int) ⊕ (Unit)) :=
  cond (decide (vblockSize < qn))
    ((loopO (gS3 qn vblockSize) ()).bind fun _ =>
    cond (decide ((IntKind.wrap .i64 ((0 : Int) + vblockSize)) < qn))
      (none)
      (some (.inl (IntKind.wrap .i64 (vblockSize * 2)))))
    (some (.inr ()))
noncomputable def gS (cmp : α → α → Option Int) (qdata : List α) (qn : Int) : Option ((List α)) :=
  (loopO (gS1 cmp qn) (qdata, 0, 20)).bind fun (vl1_1, va1_1) =>
  (gI cmp vl1_1 va1_1 qn).bind fun vl6_2 =>
  gd (vl6_2.length == vl1_1.length) <|
  (loopO (gS2 qn) 20).bind fun _ =>
  some vl6_2
noncomputable def gSort (cmp : α → α → Option Int) (qx : List α) : Option ((List α)) :=
  (gS cmp qx (qx.length : Int)).bind fun vl2 =>
  gd (vl2.length == qx.length) <|
  some vl2

def All (p : α → Prop) (l : List α) : Prop := ∀ x ∈ l, p x
theorem All.nil {p : α → Prop} : All p [] := fun _ h => nomatch h
theorem All.set {p : α → Prop} {l : List α} (h : All p l) {i : Nat} {x : α} (hx : p x) : All p (l.set i x) := by
  intro y hy
  rcases List.mem_or_eq_of_mem_set hy with hy | rfl
  · exact h y hy
  · exact hx
theorem All.at {p : α → Prop} {l : List α} (h : All p l) {i : Nat} (hi : i < l.length) : p l[i] := h _ (List.getElem_mem hi)

theorem at_i {l : List α} {n : Int} (h : 0 ≤ n) (h2 : n < l.length) : ∃ y, at? l n = some y ∧ y ∈ l := ⟨_, at_lt h h2, List.getElem_mem _⟩

theorem gI2_both {p : α → Prop} {c1 c2 : α → α → Option Int} (hc : ∀ x y, p x → p y → ∃ c, c1 x y = some c ∧ c2 x y = some c) {n : Nat} (hn : n ≤ 100000) {a j : Int} {l : List α} (ha : 0 ≤ a) (hj : a ≤ j ∧ j < n) (hl : l.length = n) (hp : All p l) :
    ∃ r, loopO (gI2 c1 a) (l, j) = some r ∧ loopO (gI2 c2 a) (l, j) = some r ∧ (r.length = n ∧ All p r) := by
  refine loop_two (fun s : List α × Int => s.1.length = n ∧ All p s.1 ∧ a ≤ s.2 ∧ s.2 < n) (fun s => s.2.toNat) _ ?_ ⟨hl, hp, hj.1, hj.2⟩
  rintro ⟨l, j⟩ ⟨h1, h2, h3, h4⟩
  simp only at h1 h2 h3 h4
  unfold gI2 gI3
  by_cases hc' : a < j
  · have w1 : IntKind.wrap .i64 (j - 1) = j - 1 := wrap64 (by omega) (by omega)
    obtain ⟨y, y1, y2⟩ := at_i (l := l) (n := j) (by omega) (by omega)
    obtain ⟨z, z1, z2⟩ := at_i (l := l) (n := j - 1) (by omega) (by omega)
    obtain ⟨u, u1, u2⟩ := at_i (l := l.set j.toNat z) (n := j - 1) (by omega) (by simp; omega)
    obtain ⟨c, e1, e2⟩ := hc y z (h2 y y2) (h2 z z2)
    simp only [hc', decide_true, cond_true, w1, y1, z1, u1, Option.bind_some, e1, e2]
    cases decide (c < 0) with
    | true =>
      left
      exact ⟨((l.set j.toNat z).set (j - 1).toNat y, j - 1), rfl, rfl, ⟨by simp [h1], (h2.set (h2 z z2)).set (h2 y y2), by simp only; omega, by simp only; omega⟩, by simp only; omega⟩
    | false =>
      right
      exact ⟨l, rfl, rfl, h1, h2⟩
  · right
    simp only [hc', decide_false, cond_false, Option.bind_some]
    exact ⟨l, rfl, rfl, h1, h2⟩

theorem gI_both {p : α → Prop} {c1 c2 : α → α → Option Int} (hc : ∀ x y, p x → p y → ∃ c, c1 x y = some c ∧ c2 x y = some c) {n : Nat} (hn : n ≤ 100000) {l : List α} (hl : l.length = n) (hp : All p l) :
    ∃ r, gI c1 l 0 n = some r ∧ gI c2 l 0 n = some r ∧ (r.length = n ∧ All p r) := by
  have w : IntKind.wrap .i64 ((0 : Int) + 1) = 1 := by decide
  obtain ⟨r, e1, e2, e3⟩ := loop_two (f := gI1 c1 0 n) (g := gI1 c2 0 n) (fun s : List α × Int => s.1.length = n ∧ All p s.1 ∧ 1 ≤ s.2 ∧ s.2 ≤ (n : Int) + 1) (fun s => ((n : Int) + 1 - s.2).toNat) (fun r => r.length = n ∧ All p r) (by
    rintro ⟨l, i⟩ ⟨h1, h2, h3, h4⟩
    simp only at h1 h2 h3 h4
    unfold gI1
    by_cases hi : i < (n : Int)
    · left
      obtain ⟨r, e1, e2, e3, e4⟩ := gI2_both hc hn (a := 0) (j := i) (by omega) (by omega) h1 h2
      simp only [hi, decide_true, cond_true, e1, e2, Option.bind_some]
      rw [wrap64 (n := i + 1) (by omega) (by omega)]
      exact ⟨_, rfl, rfl, ⟨e3, e4, by simp only; omega, by simp only; omega⟩, by simp only; omega⟩
    · right
      simp only [hi, decide_false, cond_false]
      exact ⟨l, rfl, rfl, h1, h2⟩) (s := (l, 1)) ⟨hl, hp, by simp, by simp only; omega⟩
  unfold gI
  rw [w, e1, e2]
  exact ⟨r, rfl, rfl, e3⟩

theorem gSort_both {p : α → Prop} {c1 c2 : α → α → Option Int} (hc : ∀ x y, p x → p y → ∃ c, c1 x y = some c ∧ c2 x y = some c) {l : List α} (hl : l.length < 20) (hp : All p l) :
    ∃ r, gSort c1 l = some r ∧ gSort c2 l = some r ∧ (r.length = l.length ∧ All p r) := by
  obtain ⟨r, e1, e2, e3, e4⟩ := gI_both hc (n := l.length) (by omega) rfl hp
  have h20 : ¬ (20 : Int) ≤ (l.length : Int) := by omega
  have h20' : ¬ (20 : Int) < (l.length : Int) := by omega
  have s1 : ∀ c : α → α → Option Int, loopO (gS1 c l.length) (l, 0, 20) = some (l, 0) := by
    intro c
    rw [loopO_eq]
    unfold gS1
    simp only [h20, decide_false, cond_false, Option.bind_some]
  have s2 : loopO (gS2 l.length) 20 = some () := by
    rw [loopO_eq]
    unfold gS2
    simp only [h20', decide_false, cond_false, Option.bind_some]
  have hb : (r.length == l.length) = true := by simp [e3]
  refine ⟨r, ?_, ?_, e3, e4⟩
  · unfold gSort gS
    rw [s1]
    simp only [Option.bind_some, e1, gd_true hb, s2]
  · unfold gSort gS
    rw [s1]
    simp only [Option.bind_some, e2, gd_true hb, s2]

/-! ### Equal ones, as the code has it -/
noncomputable def gC3 (t : α → α → Option Bool) (qx : List α) (vx : Int) (vl4 : List α) (vx6 : Int) (vx7 : Int) : Option (((List α) × Int)) :=
  gd (decide (0 ≤ vx) && decide (0 ≤ vx7) && decide (vx7 < (qx.length : Int) - vx)) <|
  (at? vl4 (vx + vx7)).bind fun vy13 =>
  gd (decide (0 ≤ vx) && decide (0 ≤ (IntKind.wrap .i64 (vx7 - 1))) && decide ((IntKind.wrap .i64 (vx7 - 1)) < (qx.length : Int) - vx)) <|
  (at? vl4 (vx + (IntKind.wrap .i64 (vx7 - 1)))).bind fun vy14 =>
  (t vy13 vy14).bind fun vr5 =>
  cond (!vr5)
    ((at? vl4 vx6).bind fun vy15 =>
    some (vl4.set vx6.toNat vy13, IntKind.wrap .i64 (vx6 + 1)))
    (some (vl4, vx6))
noncomputable def gC2 (t : α → α → Option Bool) (qx : List α) (vx : Int) : (List α) × Int × Int → Option (((List α) × Int × Int) ⊕ (((List α) × Int)))
  | (vl4, vx6, vx7) =>
  cond (decide (vx7 < (((qx.length : Int).toNat - vx.toNat : Nat) : Int)))
    ((gC3 t qx vx vl4 vx6 vx7).bind fun (vl6_1, vx9_1) =>
    some (.inl (vl6_1, vx9_1, IntKind.wrap .i64 (vx7 + 1))))
    (some (.inr (vl4, vx6)))
noncomputable def gC1 (t : α → α → Option Bool) (z : α) (qx : List α) (vx : Int) : Option ((Int) ⊕ (Unit ⊕ (List α))) :=
  cond (decide (vx < (qx.length : Int)))
    ((at? qx vx).bind fun vy8 =>
    (at? qx (IntKind.wrap .i64 (vx - 1))).bind fun vy9 =>
    (t vy8 vy9).bind fun vr3 =>
    cond (vr3)
      (gd (decide (0 ≤ vx) && decide (vx ≤ (qx.length : Int)) && decide ((qx.length : Int) ≤ (qx.length : Int))) <|
      (loopO (gC2 t qx vx) (qx, vx, 1)).bind fun (vl7_1, vx10_1) =>
      gd (decide (0 ≤ vx10_1) && decide (vx10_1 ≤ (vl7_1.length : Int)) && decide ((vl7_1.length : Int) ≤ (vl7_1.length : Int))) <|
      gd (decide (0 ≤ vx10_1) && decide (vx10_1 ≤ ((vl7_1.take vx10_1.toNat ++ (List.replicate ((vl7_1.length : Int).toNat - vx10_1.toNat) z ++ vl7_1.drop (vx10_1.toNat + ((vl7_1.length : Int).toNat - vx10_1.toNat)))).length : Int))) <|
      some (.inr (.inr ((vl7_1.take vx10_1.toNat ++ (List.replicate ((vl7_1.length : Int).toNat - vx10_1.toNat) z ++ vl7_1.drop (vx10_1.toNat + ((vl7_1.length : Int).toNat - vx10_1.toNat)))).take vx10_1.toNat))))
      (some (.inl (IntKind.wrap .i64 (vx + 1)))))
    (some (.inr (.inl ())))
noncomputable def gCom (t : α → α → Option Bool) (z : α) (qx : List α) : Option ((List α)) :=
  cond (decide ((qx.length : Int) < 2))
    (some qx)
    ((loopO (gC1 t z qx) 1).bind fun x => match x with
      | .inl _ =>
        some qx
      | .inr vx11_1 =>
        some vx11_1)

theorem take_part {l m : List α} {k : Nat} (h : k ≤ l.length) : (l.take k ++ m).take k = l.take k := by
  rw [List.take_append_of_le_length (by simp; omega), List.take_take]
  congr 1
  omega
theorem gCom_ok {p : α → Prop} {t : α → α → Option Bool} (ht : ∀ x y, p x → p y → ∃ b, t x y = some b) {z : α} {l : List α} (hl : l.length ≤ 100000) (hp : All p l) : Ok (gCom t z l) (fun r => r.length ≤ l.length ∧ All p r) := by
  unfold gCom
  refine .cond (fun _ => .some ⟨Nat.le_refl _, hp⟩) (fun hc => ?_)
  have hl2 : (2 : Int) ≤ l.length := by simpa using hc
  refine Ok.bind (P := fun x => match x with | .inl _ => True | .inr r => r.length ≤ l.length ∧ All p r) ?_ (fun x hx => ?_)
  · refine loop_ok (fun k : Int => 1 ≤ k ∧ k ≤ l.length) (fun k => ((l.length : Int) - k).toNat) ?_ ⟨by omega, by omega⟩
    rintro k ⟨k1, k2⟩
    unfold gC1
    refine .cond (fun hk => ?_) (fun _ => .some trivial)
    have hk : k < l.length := by simpa using hk
    have w1 : IntKind.wrap .i64 (k - 1) = k - 1 := wrap64 (by omega) (by omega)
    rw [w1]
    obtain ⟨y, y1, y2⟩ := at_i (l := l) (n := k) (by omega) (by omega)
    obtain ⟨x, x1, x2⟩ := at_i (l := l) (n := k - 1) (by omega) (by omega)
    obtain ⟨b, hb⟩ := ht y x (hp y y2) (hp x x2)
    simp only [y1, x1, hb, Option.bind_some]
    cases b with
    | false =>
      simp only [cond_false]
      rw [wrap64 (n := k + 1) (by omega) (by omega)]
      exact .some ⟨⟨by omega, by omega⟩, by omega⟩
    | true =>
      simp only [cond_true]
      refine .gd (by simp; omega) ?_
      refine Ok.bind (P := fun q : List α × Int => q.1.length = l.length ∧ All p q.1 ∧ 0 ≤ q.2 ∧ q.2 ≤ l.length) ?_ (fun ⟨l7, k9⟩ ⟨q1, q2, q3, q4⟩ => ?_)
      · have hkn : (((l.length : Int).toNat - k.toNat : Nat) : Int) = l.length - k := by omega
        refine loop_ok (fun q : List α × Int × Int => q.1.length = l.length ∧ All p q.1 ∧ (k ≤ q.2.1 ∧ q.2.1 ≤ k + q.2.2 - 1) ∧ 1 ≤ q.2.2 ∧ q.2.2 ≤ l.length - k) (fun q => ((l.length : Int) - q.2.2).toNat) ?_ ⟨rfl, hp, ⟨by simp only; omega, by simp only; omega⟩, by simp only; omega, by simp only; omega⟩
        rintro ⟨m, i, j⟩ ⟨m1, m2, ⟨i1, i2⟩, j1, j2⟩
        simp only at m1 m2 i1 i2 j1 j2
        unfold gC2
        rw [hkn]
        refine .cond (fun hj => ?_) (fun _ => .some ⟨m1, m2, by simp only; omega, by simp only; omega⟩)
        have hj : j < l.length - k := by simpa using hj
        have w2 : IntKind.wrap .i64 (j - 1) = j - 1 := wrap64 (by omega) (by omega)
        refine Ok.bind (P := fun q : List α × Int => q.1.length = l.length ∧ All p q.1 ∧ k ≤ q.2 ∧ q.2 ≤ k + j) ?_ (fun ⟨m', i'⟩ ⟨g1, g2, g3, g4⟩ => ?_)
        · unfold gC3
          rw [w2]
          refine .gd (by simp; omega) ?_
          obtain ⟨y, y1, y2⟩ := at_i (l := m) (n := k + j) (by omega) (by omega)
          obtain ⟨x, x1, x2⟩ := at_i (l := m) (n := k + (j - 1)) (by omega) (by omega)
          obtain ⟨u, u1, u2⟩ := at_i (l := m) (n := i) (by omega) (by omega)
          obtain ⟨b, hb⟩ := ht y x (m2 y y2) (m2 x x2)
          rw [y1]
          simp only [Option.bind_some]
          refine .gd (by simp; omega) ?_
          rw [x1]
          simp only [Option.bind_some, hb, u1]
          rw [wrap64 (n := i + 1) (by omega) (by omega)]
          cases b with
          | true => exact .some ⟨m1, m2, i1, by simp only; omega⟩
          | false => exact .some ⟨by simp [m1], m2.set (m2 y y2), by simp only; omega, by simp only; omega⟩
        · simp only at g1 g2 g3 g4
          rw [wrap64 (n := j + 1) (by omega) (by omega)]
          exact .some ⟨⟨g1, g2, ⟨by simp only; omega, by simp only; omega⟩, by simp only; omega, by simp only; omega⟩, by simp only; omega⟩
      · simp only at q1 q2 q3 q4
        refine .gd (by simp; omega) (.gd ?_ ?_)
        · simp only [Bool.and_eq_true, decide_eq_true_eq]
          refine ⟨q3, ?_⟩
          simp only [List.length_append, List.length_take, List.length_replicate, List.length_drop]
          omega
        · rw [take_part (by omega)]
          refine .some ⟨?_, fun x hx => q2 x (List.mem_of_mem_take hx)⟩
          simp only [List.length_take]; omega
  · cases x with
    | inl _ => exact .some ⟨Nat.le_refl _, hp⟩
    | inr r => exact .some hx

/-- A loop over all elements of a list that only gathers. -/
theorem gather_loop {τ σ ρ : Type} {l : List α} {f : τ → Option (τ ⊕ ρ)} (e : σ → Int → τ) (h : σ → α → σ) (fin : σ → ρ) (I : Nat → σ → Prop) {s0 : σ} (hl : (l.length : Int) ≤ 9223372036854775807)
    (hf : ∀ (i : Nat) (hi : i < l.length) (s : σ), I i s → f (e s i) = some (.inl (e (h s l[i]) (IntKind.wrap .i64 (i + 1)))) ∧ I (i + 1) (h s l[i])) (hd : ∀ s, I l.length s → f (e s l.length) = some (.inr (fin s))) (h0 : I 0 s0) :
    loopO f (e s0 0) = some (fin (l.foldl h s0)) ∧ I l.length (l.foldl h s0) := by
  have key : ∀ (n i : Nat) (s : σ), l.length - i = n → i ≤ l.length → I i s → loopO f (e s i) = some (fin ((l.drop i).foldl h s)) ∧ I l.length ((l.drop i).foldl h s) := by
    intro n
    induction n with
    | zero =>
      intro i s h1 h2 h3
      have : i = l.length := by omega
      subst this
      rw [List.drop_length]
      refine ⟨?_, h3⟩
      rw [loopO_eq, hd s h3]
      rfl
    | succ n ih =>
      intro i s h1 h2 h3
      have hi : i < l.length := by omega
      obtain ⟨g1, g2⟩ := hf i hi s h3
      obtain ⟨f1, f2⟩ := ih (i + 1) (h s l[i]) (by omega) (by omega) g2
      rw [drop_get hi, List.foldl_cons]
      refine ⟨?_, f2⟩
      rw [loopO_eq, g1]
      simp only [Option.bind_some]
      rw [wrap64 (by omega) (by omega)]
      exact f1
  have := key l.length 0 s0 (by omega) (by omega) h0
  simpa using this
end
end Go.Eng
