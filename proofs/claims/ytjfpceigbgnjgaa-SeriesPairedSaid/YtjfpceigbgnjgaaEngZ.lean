/-
Comparing a slice with nil.
-/
import Derived.Test.YtjfpceigbgnjgaaEngY
namespace Go.Eng
open Go
set_option linter.unusedVariables false
set_option linter.unusedSimpArgs false

section
variable {P : Program} {Γ : Types} {B : Base} {N : Nat → Prop} {nt : Nat} {C : Nat → Option Nat} {st : St} {a : Act} {w : World} {ops : Array Oper} {base k : Nat} {o : Oper} {l : List Oper} {K : St → Prop}

theorem equalIn_sl_nil (d : Nat) (t e : TypeId) (hu : P.underlying t = some (.slice e)) (p : Option Addr) (n c : Nat) : (Op.equalIn (d + 1) t (.slice p n c) (.slice none 0 0)).run P w = .ok p.isNone w := by
  cases p <;> simp only [Op.equalIn, Sem.run_bind, run_underlying hu, Result.andThen_ok] <;> rfl
theorem equal_sl_nil (t e : TypeId) (hu : P.underlying t = some (.slice e)) (p : Option Addr) (n c : Nat) : (Op.equal t (.slice p n c) (.slice none 0 0)).run P w = .ok p.isNone w := equalIn_sl_nil 9999 t e hu p n c
theorem sl_eql (t e : TypeId) (hu : P.underlying t = some (.slice e)) (o1 o2 : Operand) (p : Option Addr) (n c : Nat) :
    (do eqGuard .eql t o1 o2 (.slice p n c) (.slice none 0 0); binOp .eql t (.slice p n c) (.slice none 0 0) : Sem Value).run P w = .ok (.bool p.isNone) w := by
  have h := equal_sl_nil (w := w) t e hu p n c
  show (do pure (.bool (← Op.equal t (.slice p n c) (.slice none 0 0))) : Sem Value).run P w = _
  rw [Sem.run_bind, h]; rfl

/-- A slice is compared with nil: what is equal to it has no elements. -/
theorem aN [hΓ : TOk P Γ] {α : Type} (f : α → List D) (xs : List α) {t t' : TypeId} {x : Operand}
    (hn : ∀ b : Bool, (b = true → xs = []) → Aops P nt ops base (k + 1) l K (st.app o.dst ⟨.b b, [], [], []⟩)) (ho : o.op = .binOp .eql t x (.const (.slice none 0 0)) t')
    (h : (dstOk nt o.dst && guardT ops o st && slB Γ t) = true := by kernel_rfl) (hc : evL st x = some (xs.map f) := by kernel_rfl) : Aops P nt ops base k (o :: l) K st := by
  simp only [Bool.and_eq_true] at h
  obtain ⟨⟨h1, h2⟩, h3⟩ := h
  obtain ⟨ti, a1, a2, a3⟩ := slB_spec h3
  have hx := evL_spec hc
  intro hk hl B C a w Q hQ hi
  obtain ⟨i, z, d, _, _, _, _, hu, _, hkd, _⟩ := TIok.facts (hΓ.ok.ok t ti a1)
  rw [a2] at hkd
  have hd := kind_slice hkd
  subst hd
  have e1 : DRep w (okOf B st C w) (.lst (xs.map f)) (a.eval x) := (ev_sound hi hx).1
  have key : ∃ p n c, a.eval x = .slice p n c ∧ (p.isNone = true → xs = []) := by
    generalize a.eval x = v at e1
    generalize hy : xs.map f = ys at e1
    cases e1 with
    | lnil p c => exact ⟨p, 0, c, rfl, fun _ => by simpa using hy⟩
    | _ => exact ⟨_, _, _, rfl, fun hp => by first | (simp at hp) | (simp_all)⟩
  obtain ⟨p, n, c, hv, hp⟩ := key
  obtain ⟨g1, g2⟩ := drop_cons hl
  have g1' : ops[k]? = some o := by simpa using g1
  have hk' : k + 1 ≤ ops.size := (Array.getElem?_eq_some_iff.1 g1').1
  have hD : Does P o (base + 1000 * k) st ⟨.b p.isNone, [], [], []⟩ ∨ True := .inr trivial
  show wpOps P ops Q (k :: List.range' (k + 1) l.length) a w
  simp only [wpOps, g1', wanted_eq hi (guardT_spec h2), if_true]
  have hrun : (execOp a.eval o).run P w = .ok (.value (.bool p.isNone)) w := by
    simp only [execOp, ho]
    have e2 : a.eval (.const (.slice none 0 0)) = .slice none 0 0 := rfl
    rw [hv, e2]
    rw [Sem.run_bind, sl_eql t _ hu x _ p n c]; rfl
  refine .inl ?_
  unfold Oper.wp
  rw [hrun]
  have hA := after_d (nt := nt) hi (base + 1000 * k) (us := []) (.bool p.isNone : DRep w (okOf B st C w) (.bool p.isNone) (.bool p.isNone))
  exact (hn p.isNone hp) hk' g2 B C _ w Q hQ ((hA.inv hi (dstOk_spec h1)).sub fun id hid => by
    have h3 : base + 1000 * (k + 1) ≤ id := hid
    exact ⟨show base + 1000 * k ≤ id by omega, by omega⟩)
end
end Go.Eng
