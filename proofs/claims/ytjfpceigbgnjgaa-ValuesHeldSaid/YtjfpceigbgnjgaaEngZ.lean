/-
Comparing a slice with nil.
-/
import Derived.Test.YtjfpceigbgnjgaaEngY
namespace Go.Eng
open Go
set_option linter.unusedVariables false
set_option linter.unusedSimpArgs false

section
variable {P : Program} {Γ : Types} {B : Base} {N : Nat → Prop} {nt : Nat} {C : Nat → Option Nat} {st : St} {a : Act} {w : World} {ops : Array Oper} {base k : Nat} {o : Oper} {l : List Oper} {K : St → Prop}

theorem equalIn_sl_nil (d : Nat) (t e : TypeId) (hu : P.underlying t = some (.slice e)) (p : Option Addr) (n c : Nat) : (Op.equalIn (d + 1) t (.slice p n c) (.slice none 0 0)).run P w = .ok p.isNone w := by
  cases p <;> simp only [Op.equalIn, Sem.run_bind, run_underlying hu, Result.andThen_ok] <;> rfl
theorem equal_sl_nil (t e : TypeId) (hu : P.underlying t = some (.slice e)) (p : Option Addr) (n c : Nat) : (Op.equal t (.slice p n c) (.slice none 0 0)).run P w = .ok p.isNone w := equalIn_sl_nil 9999 t e hu p n c
theorem sl_eql (t e : TypeId) (hu : P.underlying t = some (.slice e)) (o1 o2 : Operand) (p : Option Addr) (n c : Nat) :
    (do eqGuard .eql t o1 o2 (.slice p n c) (.slice none 0 0); binOp .eql t (.slice p n c) (.slice none 0 0) : Sem Value).run P w = .ok (.bool p.isNone) w := by
  have h := equal_sl_nil (w := w) t e hu p n c
  show (do pure (.bool (← Op.equal t (.slice p n c) (.slice none 0 0))) : Sem Value).run P w = _
  rw [Sem.run_bind, h]; rfl

/-- A slice is compared with nil: what is equal to it has no elements. -/
theorem aN [hΓ : TOk P Γ] {α : Type} (f : α → List D) (xs : List α) {t t' : TypeId} {x : Operand}
    (hn : ∀ b : Bool, (b = true → xs = []) → Aops P nt ops base (k + 1) l K (st.app o.dst ⟨.b b, [], [], []⟩)) (ho : o.op = .binOp .eql t x (.const (.slice none 0 0)) t')
    (h : (dstOk nt o.dst && guardT ops o st && slB Γ t) = true := by kernel_rfl) (hc : evL st x = some (xs.map f) := by kernel_rfl) : Aops P nt ops base k (o :: l) K st := by
  simp only [Bool.and_eq_true] at h
  obtain ⟨⟨h1, h2⟩, h3⟩ := h
  obtain ⟨ti, a1, a2, a3⟩ := slB_spec h3
  have hx := evL_spec hc
  intro hk hl B C a w Q hQ hi
  obtain ⟨i, z, d, _, _, _, _, hu, _, hkd, _⟩ := TIok.facts (hΓ.ok.ok t ti a1)
  rw [a2] at hkd
  have hd := kind_slice hkd
  subst hd
  have e1 : DRep w (okOf B st C w) (.lst (xs.map f)) (a.eval x) := (ev_sound hi hx).1
  have key : ∃ p n c, a.eval x = .slice p n c ∧ (p.isNone = true → xs = []) := by
    generalize a.eval x = v at e1
    generalize hy : xs.map f = ys at e1
    cases e1 with
    | lnil p c => exact ⟨p, 0, c, rfl, fun _ => by simpa using hy⟩
    | _ => exact ⟨_, _, _, rfl, fun hp => by first | (simp at hp) | (simp_all)⟩
  obtain ⟨p, n, c, hv, hp⟩ := key
  obtain ⟨g1, g2⟩ := drop_cons hl
  have g1' : ops[k]? = some o := by simpa using g1
  have hk' : k + 1 ≤ ops.size := (Array.getElem?_eq_some_iff.1 g1').1
  have hD : Does P o (base + 1000 * k) st ⟨.b p.isNone, [], [], []⟩ ∨ True := .inr trivial
  show wpOps P ops Q (k :: List.range' (k + 1) l.length) a w
  simp only [wpOps, g1', wanted_eq hi (guardT_spec h2), if_true]
  have hrun : (execOp a.eval o).run P w = .ok (.value (.bool p.isNone)) w := by
    simp only [execOp, ho]
    have e2 : a.eval (.const (.slice none 0 0)) = .slice none 0 0 := rfl
    rw [hv, e2]
    rw [Sem.run_bind, sl_eql t _ hu x _ p n c]; rfl
  refine .inl ?_
  unfold Oper.wp
  rw [hrun]
  have hA := after_d (nt := nt) hi (base + 1000 * k) (us := []) (.bool p.isNone : DRep w (okOf B st C w) (.bool p.isNone) (.bool p.isNone))
  exact (hn p.isNone hp) hk' g2 B C _ w Q hQ ((hA.inv hi (dstOk_spec h1)).sub fun id hid => by
    have h3 : base + 1000 * (k + 1) ≤ id := hid
    exact ⟨show base + 1000 * k ≤ id by omega, by omega⟩)
end

/-! ### make -/
section
variable {Γ : Types} {base : Nat} {st : St} {α : Type}
def evJ (st : St) (x : Operand) : Option Int := match st.ev x with
  | some (.v (.one (.d (.int .i64 n)))) => some n
  | _ => none
theorem evJ_spec {x : Operand} {n : Int} (h : evJ st x = some n) : st.ev x = some (.i n) := by
  unfold evJ at h
  split at h
  · rename_i h1; injection h with h; subst h; exact h1
  · cases h
theorem x_mk (f : α → List D) (y : α) {t : TypeId} {l c : Operand} {n m : Int} (h : (decide (0 ≤ n) && decide (n ≤ m) && decide (m ≤ 137438953472)) = true)
    (hc : (slB Γ t, evJ st l, evJ st c, toDs (slT Γ t).zero, Nat.ble (slT Γ t).bytes 1024 && Nat.blt 0 (slT Γ t).sz, (slT Γ t).sz) = (true, some n, some m, some (f y), true, (f y).length) := by kernel_rfl) :
    aeff Γ base (.makeSlice t l c) st = some ⟨.c (.own base none), [(base, some ⟨slE Γ t, (slT Γ t).sz, (List.replicate n.toNat y).map f⟩)], [], [base]⟩ := by
  injection hc with h1 hc; injection hc with h2 hc; injection hc with h3 hc; injection hc with h4 hc; injection hc with h5 h6
  obtain ⟨ti, a1, a2, a3⟩ := slB_spec h1
  simp only [Bool.and_eq_true, decide_eq_true_eq] at h
  simp only [Bool.and_eq_true, Nat.blt_eq, Nat.ble_eq] at h5
  obtain ⟨s1, s2, s3, s4, s5⟩ := ti
  subst a2
  simp only [aeff, a1, evJ_spec h2, evJ_spec h3, a3, h4]
  rw [if_pos ⟨h.1.1, h.1.2, by unfold LIM; exact h.2, h5.1, h5.2, h6.symm⟩, List.map_replicate]
end

/-! ### Slices that are written in place, in regions whose order is drawn -/
section
variable {P : Program} {Γ : Types} {A nt : Nat} {base k : Nat} {o : Oper} {os l : List Oper} {st st0 : St} {Q : AEx → St → Prop} {id : Nat} {acc : List Rec} {W : List Nat} {α : Type}
theorem dI [hΓ : TOk P Γ] (f : α → List D) (j : Nat) {t : TypeId} {x i : Operand} {xs : List α} {n : Int} {y : α} (h : at? xs n = some y) (ho : o.op = .indexAddr t x i)
    (hn : DR P A nt id base W os Q st0 (acc ++ [(o, some ⟨.c (.ep j n.toNat 0), [], [], []⟩, [])]) (k + 1) l (stepX (o, some ⟨.c (.ep j n.toNat 0), [], [], []⟩, []) st))
    (hc : (slB Γ t, evO st x, evI st i, W.elem j, dstOk nt o.dst && guardT ⟨os⟩ o st) = (true, some (j, ⟨slE Γ t, (slT Γ t).sz, xs.map f⟩), some n, true, true) := by kernel_rfl) : DR P A nt id base W os Q st0 acc k (o :: l) st := by
  injection hc with h1 hc; injection hc with h2 hc; injection hc with h3 hc; injection hc with h4 h5
  obtain ⟨ti, a1, a2, a3⟩ := slB_spec h1
  obtain ⟨kd, a4⟩ := evI_spec h3
  obtain ⟨a5, a6⟩ := evO_spec h2
  have hj : j ∈ W := by simpa using h4
  refine dG (e := ⟨.c (.ep j n.toNat 0), [], [], [j]⟩) (fun hv σ hσ hv' => does_eff hΓ.ok ?_) (fun _ => okW_spec rfl) hn h5
  have hev := agree_ev hσ
  have e1 : σ.ev x = some (.c (.own j none)) := (hev x (by rw [ho]; simp [Op.operands])).trans a5
  have e2 : σ.ev i = some (.int kd n) := (hev i (by rw [ho]; simp [Op.operands])).trans a4
  have e3 := (hv' j hj).trans (hv j hj).symm
  rw [a6] at e3
  obtain ⟨g1, g2, _⟩ := at_own h
  cases hs : σ.own j with
  | none => rw [hs] at e3; exact e3.elim
  | some e' =>
    rw [hs] at e3
    obtain ⟨q1, q2, q3⟩ := e3
    obtain ⟨s1, s2, s3, s4, s5⟩ := ti
    subst a2
    rw [ho]
    have q4 : ownEt σ j (slE Γ t) (slT Γ t).sz = some e' := by unfold ownEt; rw [hs]; simp only; rw [if_pos ⟨q1, q2⟩]
    simp only [aeff, a1, e1, e2, a3, q4]
    rw [if_pos ⟨g1, by rw [show ((none : Option Nat).getD e'.xs.length) = e'.xs.length from rfl, q3]; simpa using g2⟩]
theorem dW [hΓ : TOk P Γ] (f : α → List D) (z : α) {t : TypeId} {x u : Operand} {n : Int} {xs : List α} {y : α} (h : at? xs n = some y) (ho : o.op = .store t x u)
    (hn : DR P A nt id base W os Q st0 (acc ++ [(o, some ⟨.undef, [((epP st x).1, some ⟨(epP st x).2.2.2.et, (epP st x).2.2.2.sz, (xs.set n.toNat z).map f⟩)], [], []⟩, opUses st o.op)]) (k + 1) l
      (stepX (o, some ⟨.undef, [((epP st x).1, some ⟨(epP st x).2.2.2.et, (epP st x).2.2.2.sz, (xs.set n.toNat z).map f⟩)], [], []⟩, opUses st o.op) st))
    (hc : ((Γ.lookup t).isSome, (epC st x).isSome, (epP st x).2.1, (epP st x).2.2.2.xs, stN Γ t st u (epP st x).2.2.1 (f y)) = (true, true, n.toNat, xs.map f, some (f z)) := by kernel_rfl)
    (hg : (dstOk nt o.dst && guardT ⟨os⟩ o st) = true := by kernel_rfl) : DR P A nt id base W os Q st0 acc k (o :: l) st := by
  have he := x_stE (base := base + 1000 * k) f z h hc
  rw [← ho] at he
  refine dG (e := ⟨.undef, [((epP st x).1, some ⟨(epP st x).2.2.2.et, (epP st x).2.2.2.sz, (xs.set n.toNat z).map f⟩)], [], [(epP st x).1]⟩) (fun _ => stable_eff (ops := ⟨os⟩) hΓ.ok he (uses_all _ _)) (fun hv p hp hw => ?_) hn hg
  have hp' : p = ((epP st x).1, some ⟨(epP st x).2.2.2.et, (epP st x).2.2.2.sz, (xs.set n.toNat z).map f⟩) := by simpa [Rec.ou] using hp
  subst hp'
  injection hc with h1 hc; injection hc with h2 hc; injection hc with h3 hc; injection hc with h4 h5
  obtain ⟨⟨j, i, off, et, sz, ys⟩, a2⟩ := Option.isSome_iff_exists.1 h2
  obtain ⟨b1, b2⟩ := epC_spec a2
  have e2 : epP st x = (j, i, off, ⟨et, sz, ys⟩) := by unfold epP; rw [a2]; rfl
  rw [e2] at h4 hw ⊢
  have hv := hv j hw
  rw [b2] at hv
  refine lenEq.trans ?_ hv
  have h4' : ys = xs.map f := h4
  exact ⟨rfl, rfl, by rw [h4']; simp⟩
end
end Go.Eng
