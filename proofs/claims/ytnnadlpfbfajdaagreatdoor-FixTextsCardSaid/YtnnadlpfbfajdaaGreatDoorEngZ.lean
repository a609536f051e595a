/-
Comparing a slice with nil.
-/
import Derived.Test.YtnnadlpfbfajdaaGreatDoorEngY
namespace Go.Eng
open Go
set_option linter.unusedVariables false
set_option linter.unusedSimpArgs false

section
variable {P : Program} {Γ : Types} {B : Base} {N : Nat → Prop} {nt : Nat} {C : Nat → Option Nat} {st : St} {a : Act} {w : World} {ops : Array Oper} {base k : Nat} {o : Oper} {l : List Oper} {K : St → Prop}

theorem equalIn_sl_nil (d : Nat) (t e : TypeId) (hu : P.underlying t = some (.slice e)) (p : Option Addr) (n c : Nat) : (Op.equalIn (d + 1) t (.slice p n c) (.slice none 0 0)).run P w = .ok p.isNone w := by
  cases p <;> simp only [Op.equalIn, Sem.run_bind, run_underlying hu, Result.andThen_ok] <;> rfl
theorem equal_sl_nil (t e : TypeId) (hu : P.underlying t = some (.slice e)) (p : Option Addr) (n c : Nat) : (Op.equal t (.slice p n c) (.slice none 0 0)).run P w = .ok p.isNone w := equalIn_sl_nil 9999 t e hu p n c
theorem sl_eql (t e : TypeId) (hu : P.underlying t = some (.slice e)) (o1 o2 : Operand) (p : Option Addr) (n c : Nat) :
    (do eqGuard .eql t o1 o2 (.slice p n c) (.slice none 0 0); binOp .eql t (.slice p n c) (.slice none 0 0) : Sem Value).run P w = .ok (.bool p.isNone) w := by
  have h := equal_sl_nil (w := w) t e hu p n c
  show (do pure (.bool (← Op.equal t (.slice p n c) (.slice none 0 0))) : Sem Value).run P w = _
  rw [Sem.run_bind, h]; rfl

/-- A slice is compared with nil: what is equal to it has no elements. -/
theorem aN [hΓ : TOk P Γ] {α : Type} (f : α → List D) (xs : List α) {t t' : TypeId} {x : Operand}
    (hn : ∀ b : Bool, (b = true → xs = []) → Aops P nt ops base (k + 1) l K (st.app o.dst ⟨.b b, [], [], []⟩)) (ho : o.op = .binOp .eql t x (.const (.slice none 0 0)) t')
    (h : (dstOk nt o.dst && guardT ops o st && slB Γ t) = true := by kernel_rfl) (hc : evL st x = some (xs.map f) := by kernel_rfl) : Aops P nt ops base k (o :: l) K st := by
  simp only [Bool.and_eq_true] at h
  obtain ⟨⟨h1, h2⟩, h3⟩ := h
  obtain ⟨ti, a1, a2, a3⟩ := slB_spec h3
  have hx := evL_spec hc
  intro hk hl B C a w Q hQ hi
  obtain ⟨i, z, d, _, _, _, _, hu, _, hkd, _⟩ := TIok.facts (hΓ.ok.ok t ti a1)
  rw [a2] at hkd
  have hd := kind_slice hkd
  subst hd
  have e1 : DRep w (okOf B st C w) (.lst (xs.map f)) (a.eval x) := (ev_sound hi hx).1
  have key : ∃ p n c, a.eval x = .slice p n c ∧ (p.isNone = true → xs = []) := by
    generalize a.eval x = v at e1
    generalize hy : xs.map f = ys at e1
    cases e1 with
    | lnil p c => exact ⟨p, 0, c, rfl, fun _ => by simpa using hy⟩
    | _ => exact ⟨_, _, _, rfl, fun hp => by first | (simp at hp) | (simp_all)⟩
  obtain ⟨p, n, c, hv, hp⟩ := key
  obtain ⟨g1, g2⟩ := drop_cons hl
  have g1' : ops[k]? = some o := by simpa using g1
  have hk' : k + 1 ≤ ops.size := (Array.getElem?_eq_some_iff.1 g1').1
  have hD : Does P o (base + 1000 * k) st ⟨.b p.isNone, [], [], []⟩ ∨ True := .inr trivial
  show wpOps P ops Q (k :: List.range' (k + 1) l.length) a w
  simp only [wpOps, g1', wanted_eq hi (guardT_spec h2), if_true]
  have hrun : (execOp a.eval o).run P w = .ok (.value (.bool p.isNone)) w := by
    simp only [execOp, ho]
    have e2 : a.eval (.const (.slice none 0 0)) = .slice none 0 0 := rfl
    rw [hv, e2]
    rw [Sem.run_bind, sl_eql t _ hu x _ p n c]; rfl
  refine .inl ?_
  unfold Oper.wp
  rw [hrun]
  have hA := after_d (nt := nt) hi (base + 1000 * k) (us := []) (.bool p.isNone : DRep w (okOf B st C w) (.bool p.isNone) (.bool p.isNone))
  exact (hn p.isNone hp) hk' g2 B C _ w Q hQ ((hA.inv hi (dstOk_spec h1)).sub fun id hid => by
    have h3 : base + 1000 * (k + 1) ≤ id := hid
    exact ⟨show base + 1000 * k ≤ id by omega, by omega⟩)
end

/-! ### make -/
section
variable {Γ : Types} {base : Nat} {st : St} {α : Type}
def evJ (st : St) (x : Operand) : Option Int := match st.ev x with
  | some (.v (.one (.d (.int .i64 n)))) => some n
  | _ => none
theorem evJ_spec {x : Operand} {n : Int} (h : evJ st x = some n) : st.ev x = some (.i n) := by
  unfold evJ at h
  split at h
  · rename_i h1; injection h with h; subst h; exact h1
  · cases h
theorem x_mk (f : α → List D) (y : α) {t : TypeId} {l c : Operand} {n m : Int} (h : (decide (0 ≤ n) && decide (n ≤ m) && decide (m ≤ 137438953472)) = true)
    (hc : (slB Γ t, evJ st l, evJ st c, toDs (slT Γ t).zero, Nat.ble (slT Γ t).bytes 1024 && Nat.blt 0 (slT Γ t).sz, (slT Γ t).sz) = (true, some n, some m, some (f y), true, (f y).length) := by kernel_rfl) :
    aeff Γ base (.makeSlice t l c) st = some ⟨.c (.own base none), [(base, some ⟨slE Γ t, (slT Γ t).sz, (List.replicate n.toNat y).map f⟩)], [], [base]⟩ := by
  injection hc with h1 hc; injection hc with h2 hc; injection hc with h3 hc; injection hc with h4 hc; injection hc with h5 h6
  obtain ⟨ti, a1, a2, a3⟩ := slB_spec h1
  simp only [Bool.and_eq_true, decide_eq_true_eq] at h
  simp only [Bool.and_eq_true, Nat.blt_eq, Nat.ble_eq] at h5
  obtain ⟨s1, s2, s3, s4, s5⟩ := ti
  subst a2
  simp only [aeff, a1, evJ_spec h2, evJ_spec h3, a3, h4]
  rw [if_pos ⟨h.1.1, h.1.2, by unfold LIM; exact h.2, h5.1, h5.2, h6.symm⟩, List.map_replicate]
end

/-! ### Slices that are written in place, in regions whose order is drawn -/
section
variable {P : Program} {Γ : Types} {A nt : Nat} {base k : Nat} {o : Oper} {os l : List Oper} {st st0 : St} {Q : AEx → St → Prop} {id : Nat} {acc : List Rec} {W : List Nat} {α : Type}
theorem dI [hΓ : TOk P Γ] (f : α → List D) (j : Nat) {t : TypeId} {x i : Operand} {xs : List α} {n : Int} {y : α} (h : at? xs n = some y) (ho : o.op = .indexAddr t x i)
    (hn : DR P A nt id base W os Q st0 (acc ++ [(o, some ⟨.c (.ep j n.toNat 0), [], [], []⟩, [])]) (k + 1) l (stepX (o, some ⟨.c (.ep j n.toNat 0), [], [], []⟩, []) st))
    (hc : (slB Γ t, evO st x, evI st i, W.elem j, dstOk nt o.dst && guardT ⟨os⟩ o st) = (true, some (j, ⟨slE Γ t, (slT Γ t).sz, xs.map f⟩), some n, true, true) := by kernel_rfl) : DR P A nt id base W os Q st0 acc k (o :: l) st := by
  injection hc with h1 hc; injection hc with h2 hc; injection hc with h3 hc; injection hc with h4 h5
  obtain ⟨ti, a1, a2, a3⟩ := slB_spec h1
  obtain ⟨kd, a4⟩ := evI_spec h3
  obtain ⟨a5, a6⟩ := evO_spec h2
  have hj : j ∈ W := by simpa using h4
  refine dG (e := ⟨.c (.ep j n.toNat 0), [], [], [j]⟩) (fun hv σ hσ hv' => does_eff hΓ.ok ?_) (fun _ => okW_spec rfl) hn h5
  have hev := agree_ev hσ
  have e1 : σ.ev x = some (.c (.own j none)) := (hev x (by rw [ho]; simp [Op.operands])).trans a5
  have e2 : σ.ev i = some (.int kd n) := (hev i (by rw [ho]; simp [Op.operands])).trans a4
  have e3 := (hv' j hj).trans (hv j hj).symm
  rw [a6] at e3
  obtain ⟨g1, g2, _⟩ := at_own h
  cases hs : σ.own j with
  | none => rw [hs] at e3; exact e3.elim
  | some e' =>
    rw [hs] at e3
    obtain ⟨q1, q2, q3⟩ := e3
    obtain ⟨s1, s2, s3, s4, s5⟩ := ti
    subst a2
    rw [ho]
    have q4 : ownEt σ j (slE Γ t) (slT Γ t).sz = some e' := by unfold ownEt; rw [hs]; simp only; rw [if_pos ⟨q1, q2⟩]
    simp only [aeff, a1, e1, e2, a3, q4]
    rw [if_pos ⟨g1, by rw [show ((none : Option Nat).getD e'.xs.length) = e'.xs.length from rfl, q3]; simpa using g2⟩]
theorem dW [hΓ : TOk P Γ] (f : α → List D) (z : α) {t : TypeId} {x u : Operand} {n : Int} {xs : List α} {y : α} (h : at? xs n = some y) (ho : o.op = .store t x u)
    (hn : DR P A nt id base W os Q st0 (acc ++ [(o, some ⟨.undef, [((epP st x).1, some ⟨(epP st x).2.2.2.et, (epP st x).2.2.2.sz, (xs.set n.toNat z).map f⟩)], [], []⟩, opUses st o.op)]) (k + 1) l
      (stepX (o, some ⟨.undef, [((epP st x).1, some ⟨(epP st x).2.2.2.et, (epP st x).2.2.2.sz, (xs.set n.toNat z).map f⟩)], [], []⟩, opUses st o.op) st))
    (hc : ((Γ.lookup t).isSome, (epC st x).isSome, (epP st x).2.1, (epP st x).2.2.2.xs, stN Γ t st u (epP st x).2.2.1 (f y)) = (true, true, n.toNat, xs.map f, some (f z)) := by kernel_rfl)
    (hg : (dstOk nt o.dst && guardT ⟨os⟩ o st) = true := by kernel_rfl) : DR P A nt id base W os Q st0 acc k (o :: l) st := by
  have he := x_stE (base := base + 1000 * k) f z h hc
  rw [← ho] at he
  refine dG (e := ⟨.undef, [((epP st x).1, some ⟨(epP st x).2.2.2.et, (epP st x).2.2.2.sz, (xs.set n.toNat z).map f⟩)], [], [(epP st x).1]⟩) (fun _ => stable_eff (ops := ⟨os⟩) hΓ.ok he (uses_all _ _)) (fun hv p hp hw => ?_) hn hg
  have hp' : p = ((epP st x).1, some ⟨(epP st x).2.2.2.et, (epP st x).2.2.2.sz, (xs.set n.toNat z).map f⟩) := by simpa [Rec.ou] using hp
  subst hp'
  injection hc with h1 hc; injection hc with h2 hc; injection hc with h3 hc; injection hc with h4 h5
  obtain ⟨⟨j, i, off, et, sz, ys⟩, a2⟩ := Option.isSome_iff_exists.1 h2
  obtain ⟨b1, b2⟩ := epC_spec a2
  have e2 : epP st x = (j, i, off, ⟨et, sz, ys⟩) := by unfold epP; rw [a2]; rfl
  rw [e2] at h4 hw ⊢
  have hv := hv j hw
  rw [b2] at hv
  refine lenEq.trans ?_ hv
  have h4' : ys = xs.map f := h4
  exact ⟨rfl, rfl, by rw [h4']; simp⟩
end

/-! ### The beginning of a slice that is not used otherwise -/
section
variable {P : Program} {Γ : Types} {st : St} {o : Oper} {base : Nat}
theorem does_trunc (hΓ : TypesOk P Γ) {id r : Nat} {oe : OwnB} {us : List Nat} (he : aeff Γ base o.op st = some ⟨.c (.own id (some r)), [], [], us⟩) (ho : st.own id = some oe) :
    Does P o base st ⟨.c (.own base none), [(id, none), (base, some ⟨oe.et, oe.sz, oe.xs.take r⟩)], [], [base, id]⟩ := by
  intro B N nt C a w K Q h hN hK
  obtain ⟨v, w', C', hr, hA⟩ := aeff_sound hΓ o.op B N nt C st a w base _ h hN he
  have mm : Mm B C' st w' := hA.mm
  have hkeep : Keep B N C st w C' st w' := hA.keep
  have hN0 : N base := hN 0 (by omega)
  have hpos := (mm.own id oe ho).1
  have hne : ∀ j, N j → j ≠ id := fun j hj hji => by
    subst hji; rw [h.res.own _ hj] at ho; cases ho
  have key : ∃ C'', After B N (Less N base) C st w ⟨.c (.own base none), [(id, none), (base, some ⟨oe.et, oe.sz, oe.xs.take r⟩)], [], [base, id]⟩ v C'' w' := by
    rcases hA.val with ⟨g1, g2, g3⟩ | ⟨b, n, c, hb, hv, hnc, hc63, h4⟩
    · have hr0 : r = 0 := g3 oe ho
      subst hr0
      obtain ⟨m1, m2⟩ := mm.drop (id := id) h.res h.ancN
      have hres1 : Res N { st with own := upd st.own id none } := ⟨fun j hj => by
        show upd st.own id none j = none
        rw [upd_ne _ _ (hne j hj)]; exact h.res.own j hj, h.res.box, h.res.t, h.res.cell⟩
      obtain ⟨q1, q2⟩ := m2.new_nil (e := ⟨oe.et, oe.sz, []⟩) hres1 h.ancN hN0 hpos rfl
      refine ⟨upd C' base none, ?_, fun c u hc hu => ?_, ?_, ?_, own_vres, fun _ hi => hi.1⟩
      · rw [List.take_zero]; exact q2
      · rw [List.take_zero]; exact q1.keep c u hc (m1.keep c u hc (hkeep c u hc hu))
      · refine .inl ⟨upd_same _ _ _, g2, fun e he' => ?_⟩
        have he2 : upd (upd st.own id none) base (some ⟨oe.et, oe.sz, oe.xs.take 0⟩) base = some e := he'
        rw [upd_same] at he2; injection he2 with he2; subst he2
        simp
      · exact res_new_own (base := base) (e := some ⟨oe.et, oe.sz, oe.xs.take 0⟩) hres1
    · obtain ⟨h5, h6, arr, hh, has⟩ := h4 oe ho
      have h5' : n = r := h5
      subst h5'
      have h6' : n ≤ oe.xs.length := h6
      obtain ⟨_, hbk⟩ := mm.own id oe ho
      rcases hbk with ⟨hb0, _⟩ | ⟨b', arr', hb', hh', hle, hls, hcell⟩
      · rw [hb] at hb0; cases hb0
      rw [hb] at hb'; injection hb' with hb'; subst hb'
      rw [hh] at hh'; injection hh' with hh'; injection hh' with hh' _ _; subst hh'
      have hlen : (oe.xs.take n).length = n := by simp; omega
      have hl1 : (oe.xs.take n).length * oe.sz ≤ arr.size := Nat.le_trans (Nat.mul_le_mul_right _ (by rw [hlen]; exact h6')) hle
      obtain ⟨m1, m2⟩ := mm.move_own (id' := base) (e2 := ⟨oe.et, oe.sz, oe.xs.take n⟩) h.res h.ancN ho hN0 hb hh ⟨rfl, rfl, rfl, rfl, hh, fun _ _ => rfl⟩ hpos rfl rfl hl1 (fun cs hcs => hls cs (List.mem_of_mem_take hcs))
        (fun i j cs x hi hj => hcell i j cs x (by
          rw [List.getElem?_take] at hi
          split at hi
          · exact hi
          · cases hi) hj)
      refine ⟨upd C' base (some b), m2, fun c u hc hu => m1.keep c u hc (hkeep c u hc hu), ?_, ?_, own_vres, fun _ hi => hi.1⟩
      · refine .inr ⟨b, n, c, upd_same _ _ _, hv, hnc, hc63, fun e he' => ?_⟩
        have he2 : upd (upd st.own id none) base (some ⟨oe.et, oe.sz, oe.xs.take n⟩) base = some e := he'
        rw [upd_same] at he2; injection he2 with he2; subst he2
        exact ⟨hlen.symm, by rw [hlen]; exact Nat.le_refl _, arr, hh, has⟩
      · refine ⟨fun j hj => ?_, fun j hj => h.res.box j hj.1, fun j hj => h.res.t j hj.1, fun j hj => h.res.cell j hj.1⟩
        show upd (upd st.own id none) base _ j = none
        rw [upd_ne _ _ (less_ne hj), upd_ne _ _ (hne j hj.1)]
        exact h.res.own j hj.1
  obtain ⟨C'', hA'⟩ := key
  unfold Oper.wp
  rcases hr o rfl with h1 | ⟨h1, h2⟩
  · rw [h1]; exact hK v w' C'' hA'
  · rw [h1]
    subst h2
    exact hK _ w' C'' hA'
end

/-! ### Parts of slices of one's own -/
section
variable {P : Program} {Γ : Types} {base : Nat} {st : St} {α : Type}
theorem mapV (f : α → List D) (l : List α) (a n : Nat) : ((l.map f).drop a).take n = ((l.drop a).take n).map f := by rw [List.map_take, List.map_drop]
theorem evO_bnd {x : Operand} {b : Int} {d : Int} (h : evI st x = some b) : aeff.bnd st (some x) d = some b := by
  obtain ⟨k, hk⟩ := evI_spec h
  simp only [aeff.bnd, hk]
theorem x_pre (f : α → List D) (id : Nat) {t : TypeId} {x hi : Operand} {l : List α} {b : Int} (h : (decide (0 ≤ b) && decide (b ≤ (l.length : Int))) = true)
    (hc : (slB Γ t, evO st x, evI st hi) = (true, some (id, ⟨slE Γ t, (slT Γ t).sz, l.map f⟩), some b) := by kernel_rfl) : aeff Γ base (.slice t x none (some hi) none) st = some ⟨.c (.own id (some b.toNat)), [], [], [id]⟩ := by
  injection hc with h1 hc; injection hc with h2 h3
  obtain ⟨ti, a1, a2, a3⟩ := slB_spec h1
  obtain ⟨a5, a6⟩ := evO_spec h2
  obtain ⟨s1, s2, s3, s4, s5⟩ := ti
  subst a2
  simp only [Bool.and_eq_true, decide_eq_true_eq] at h
  simp only [aeff, a1, a5, a6, a3, evO_bnd h3]
  rw [if_pos ⟨h.1, by simpa using h.2⟩]
theorem x_view (f : α → List D) (id : Nat) {t : TypeId} {x lo hi : Operand} {l : List α} {a b : Int} (h : (decide (0 ≤ a) && decide (a ≤ b) && decide (b ≤ (l.length : Int))) = true)
    (hc : (slB Γ t, evO st x, evI st lo, evI st hi) = (true, some (id, ⟨slE Γ t, (slT Γ t).sz, l.map f⟩), some a, some b) := by kernel_rfl) :
    aeff Γ base (.slice t x (some lo) (some hi) none) st = some ⟨.c (.view id a.toNat (b.toNat - a.toNat)), [], [], [id]⟩ := by
  injection hc with h1 hc; injection hc with h2 hc; injection hc with h3 h4
  obtain ⟨ti, a1, a2, a3⟩ := slB_spec h1
  obtain ⟨a5, a6⟩ := evO_spec h2
  obtain ⟨s1, s2, s3, s4, s5⟩ := ti
  subst a2
  simp only [Bool.and_eq_true, decide_eq_true_eq] at h
  simp only [aeff, a1, a5, a6, a3, evO_bnd h3, evO_bnd h4]
  rw [if_pos ⟨h.1.1, h.1.2, by simpa using h.2, trivial⟩]
theorem x_viewN (f : α → List D) (id : Nat) {t : TypeId} {x lo : Operand} {l : List α} {a : Int} (h : (decide (0 ≤ a) && decide (a ≤ (l.length : Int)) && decide ((l.length : Int) ≤ (l.length : Int))) = true)
    (hc : (slB Γ t, evO st x, evI st lo) = (true, some (id, ⟨slE Γ t, (slT Γ t).sz, l.map f⟩), some a) := by kernel_rfl) :
    aeff Γ base (.slice t x (some lo) none none) st = some ⟨.c (.view id a.toNat ((l.length : Int).toNat - a.toNat)), [], [], [id]⟩ := by
  injection hc with h1 hc; injection hc with h2 h3
  obtain ⟨ti, a1, a2, a3⟩ := slB_spec h1
  obtain ⟨a5, a6⟩ := evO_spec h2
  obtain ⟨s1, s2, s3, s4, s5⟩ := ti
  subst a2
  simp only [Bool.and_eq_true, decide_eq_true_eq] at h
  have e : aeff.bnd st none (((none : Option Nat).getD (l.map f).length : Nat) : Int) = some ((l.length : Nat) : Int) := by simp [aeff.bnd]
  simp only [aeff, a1, a5, a6, a3, evO_bnd h3, e]
  rw [if_pos ⟨h.1.1, h.1.2, by simp, trivial⟩]

def evP (st : St) (x : Operand) : Option (Nat × Nat × OwnB) := match st.ev x with
  | some (.v (.one (.own id (some m)))) => (st.own id).map fun e => (id, m, e)
  | _ => none
theorem evP_spec {x : Operand} {id m : Nat} {e : OwnB} (h : evP st x = some (id, m, e)) : st.ev x = some (.c (.own id (some m))) ∧ st.own id = some e := by
  unfold evP at h
  split at h
  · rename_i id' m' h1
    rw [Option.map_eq_some_iff] at h
    obtain ⟨e', h2, h3⟩ := h
    injection h3 with h3 h4; injection h4 with h4 h5; subst h3 h4 h5
    exact ⟨h1, h2⟩
  · cases h
theorem x_appY (f : α → List D) (id : Nat) {l ys : List α} {Y : List (List D)} {t : TypeId} {x y : Operand} (hl : Nat.ble (l.length + ys.length) LIM = true) (hY : Y = ys.map f)
    (hc : (apB Γ t, evO st x, apY st y) = (true, some (id, ⟨slE Γ t, (slT Γ t).sz, l.map f⟩), some Y) := by kernel_rfl) (hs : ∀ y, (f y).length = (slT Γ t).sz := by intro _; kernel_rfl) :
    aeff Γ base (.call ⟨.builtin .append, ⟨[x, y]⟩, ⟨[t, t]⟩⟩) st = some ⟨.c (.own base none), [(id, none), (base, some ⟨slE Γ t, (slT Γ t).sz, (l ++ ys).map f⟩)], [], base :: id :: apU st y⟩ := by
  subst hY
  exact x_app f id hl hc hs
theorem x_appP (f : α → List D) (id : Nat) {b : Int} {l ys : List α} {Y : List (List D)} {t : TypeId} {x y : Operand} (hp : (decide (0 ≤ b) && decide (b ≤ (l.length : Int))) = true) (hl : Nat.ble (b.toNat + ys.length) LIM = true) (hY : Y = ys.map f)
    (hc : (apB Γ t, evP st x, apY st y) = (true, some (id, b.toNat, ⟨slE Γ t, (slT Γ t).sz, l.map f⟩), some Y) := by kernel_rfl) (hs : ∀ y, (f y).length = (slT Γ t).sz := by intro _; kernel_rfl) :
    aeff Γ base (.call ⟨.builtin .append, ⟨[x, y]⟩, ⟨[t, t]⟩⟩) st = some ⟨.c (.own base none), [(id, none), (base, some ⟨slE Γ t, (slT Γ t).sz, (l.take b.toNat ++ ys).map f⟩)], [], base :: id :: apU st y⟩ := by
  subst hY
  injection hc with h1 hc; injection hc with h2 h3
  obtain ⟨a0, a1, a2, a3⟩ := apB_spec h1
  obtain ⟨ti, b1, b2, b3⟩ := slB_spec a0
  obtain ⟨tv, c1, c2⟩ := apY_spec h3
  obtain ⟨d1, d2⟩ := evP_spec h2
  simp only [Bool.and_eq_true, decide_eq_true_eq] at hp
  rw [Nat.ble_eq] at hl
  obtain ⟨s1, s2, s3, s4, s5⟩ := ti
  subst b2
  simp only [aeff, St.evs, d1, c1, c2, if_true, aappend, b1, b3, ownEt, d2]
  rw [if_pos ⟨a1, a2, a3, by simp [hs]⟩]
  simp only [and_self, if_true]
  rw [if_pos ⟨by simp; omega, by simpa using hl⟩, List.map_append, List.map_take]
end
section
variable {P : Program} {Γ : Types} {A nt : Nat} {ops : Array Oper} {base k : Nat} {o : Oper} {l : List Oper} {K : St → Prop} {st : St} {α : Type}
theorem aT [hΓ : TOk P Γ] (f : α → List D) (id : Nat) {t : TypeId} {x hi : Operand} {xs : List α} {b : Int} (h : (decide (0 ≤ b) && decide (b ≤ (xs.length : Int))) = true) (ho : o.op = .slice t x none (some hi) none)
    (hn : Aops P nt ops base (k + 1) l K (st.app o.dst ⟨.c (.own (base + 1000 * k) none), [(id, none), (base + 1000 * k, some ⟨slE Γ t, (slT Γ t).sz, (xs.take b.toNat).map f⟩)], [], []⟩))
    (hc : (slB Γ t, evO st x, evI st hi) = (true, some (id, ⟨slE Γ t, (slT Γ t).sz, xs.map f⟩), some b) := by kernel_rfl) (hg : (dstOk nt o.dst && guardT ops o st) = true := by kernel_rfl) : Aops P nt ops base k (o :: l) K st := by
  rw [Bool.and_eq_true] at hg
  have he := x_pre (base := base + 1000 * k) f id h hc
  rw [← ho] at he
  injection hc with h1 hc; injection hc with h2 h3
  have hd := does_trunc (P := P) hΓ.ok he (evO_spec h2).2
  rw [show (⟨slE Γ t, (slT Γ t).sz, xs.map f⟩ : OwnB).xs.take b.toNat = (xs.take b.toNat).map f from (List.map_take ..).symm] at hd
  exact aops_do (guardT_spec hg.2) (dstOk_spec hg.1) (does_use hd) hn
end

/-! ### A slice of one's own that becomes data within a region -/
section
variable {P : Program} {Γ : Types} {A nt : Nat} {ops : Array Oper} {base k : Nat} {l : List Oper} {K : St → Prop} {st : St} {m : Mem}
theorem to_see0 {ts : List (Nat × TV)} {nx n0 : Nat} (hk : m.keysB [] [] = true) (hw : lows 0 [] [] m ts nx = true) (hc : lowc m nx) (ho : OwnL st [] [] m.own)
    (hb : BoxL (CellSee (fun _ => True) st (rof []) (nof []) m) st [] [] m.box) (ht : AllT (CellSee (fun _ => True) st (rof []) (nof []) m) st ts)
    (B : Base) (nt : Nat) (C : Nat → Option Nat) (a : Act) (w : World) (h : Inv B (From nx) nt C st a w) : ∃ C', Inv B (From nx) nt C' (m.st (tl ts) n0) a w := by
  simp only [lows, Bool.and_eq_true] at hw
  obtain ⟨⟨⟨⟨⟨w1, w2⟩, w3⟩, w4⟩, w5⟩, w6⟩ := hw
  have hs := sees_of hk ho hb
  have hC : ∀ id, seeC C (rof []) (nof []) id = C id := fun id => rfl
  refine ⟨seeC C (rof []) (nof []), { toMm := ?_, res := ?_, ancN := h.ancN, defers := h.defers, size := h.size, tmp := fun s => ?_ }⟩
  · refine hs.mm h.toMm (fun b hb => hb.2.1) (fun id b _ hl hb => h.nb id b hl hb) ?_ h.badlt h.fr ?_ ?_
    · intro k b hk hb
      unfold seeC at hb
      split at hb
      · cases hb
      · rename_i hnk; exact h.nb _ b (hs.live hk (by simpa using hnk)) hb
    · intro id hid
      rw [hC id]
      exact h.anc id hid
    · intro k b hk hb
      unfold seeC at hb
      split at hb
      · cases hb
      · rename_i hnk; exact h.wr _ b (hs.live hk (by simpa using hnk)) hb
  · refine ⟨fun id hid => ?_, fun id hid => ?_, fun id hid s hr => ?_, fun id hid j cs c hj hc' hr => ?_⟩
    · cases he : m.own.lookup id with
      | none => exact he
      | some e =>
        have := List.all_eq_true.1 w4 _ (mem_lookup he)
        simp [Nat.blt_eq] at this
        have h2 : nx ≤ id := hid
        omega
    · cases he : m.box.lookup id with
      | none => exact he
      | some e =>
        have := List.all_eq_true.1 w5 _ (mem_lookup he)
        simp [Nat.blt_eq] at this
        have h2 : nx ≤ id := hid
        omega
    · have hr' : id ∈ ((ts.lookup s).getD .undef).refs := hr
      cases he : ts.lookup s with
      | none => rw [he] at hr'; cases hr'
      | some e =>
        rw [he] at hr'
        have := List.all_eq_true.1 (List.all_eq_true.1 w6 _ (mem_lookup he)) _ hr'
        simp [Nat.blt_eq] at this
        have h2 : nx ≤ id := hid
        omega
    · have h1 := hc (j, cs) (mem_lookup hj) c hc' id hr
      have h2 : nx ≤ id := hid
      omega
  · show TRep _ ((ts.lookup s).getD .undef) _
    cases he : ts.lookup s with
    | none => trivial
    | some e =>
      exact (ht.mem _ (mem_lookup he)).rep (fun c c' u hc hr => hs.cell h.toMm (fun b hb => hb.2.1) (fun id b _ hl hb => h.nb id b hl hb) hc hr) (fun u => trivial) (h.tmp s)
theorem aF (m : Mem) (ts : List (Nat × TV)) (hn : Aops P nt ops base k l K (m.st (tl ts) 0))
    (h : (seeOk none st [] [] m && tsOk st [] [] m ts && lows 0 [] [] m ts (base + 1000 * k) && lowcB m (base + 1000 * k)) = true := by kernel_rfl)
    (he : (seeL st [] [] m, tsL st [] [] ts) = (seeR [] m, ts.map fun p => p.2.ren (rof [])) := by kernel_rfl) : Aops P nt ops base k l K st := by
  simp only [Bool.and_eq_true] at h
  obtain ⟨⟨⟨h1, h2⟩, h3⟩, h4⟩ := h
  injection he with e1 e2
  simp only [seeOk, Bool.and_eq_true] at h1
  injection e1 with e3 e4
  intro hk hl B C a w Q hQ hi
  obtain ⟨C', hi'⟩ := to_see0 (n0 := 0) h1.1.1 h3 (lowc_of h4) (own_sound h1.1.2 e3) (box_sound (lens := none) h1.2 e4) (ts_sound h2 e2) B nt C a w hi
  exact hn hk hl B C' a w Q hQ hi'
end
end Go.Eng
