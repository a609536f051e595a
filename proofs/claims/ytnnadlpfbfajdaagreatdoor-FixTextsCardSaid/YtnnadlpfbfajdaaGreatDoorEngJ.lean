/-
Each operation of the model does what the reckoned effect says: operations that make or write memory.
-/
import Derived.Test.YtnnadlpfbfajdaaGreatDoorEngI
import Derived.Laws.AppendOwn
import Derived.Laws.MakeOwn
import Derived.Laws.Tables
import Derived.Laws.NewBlocks
namespace Go.Eng
open Go
set_option linter.unusedVariables false
set_option linter.unusedSimpArgs false

section
variable {P : Program} {Γ : Types} {B : Base} {N : Nat → Prop} {nt : Nat} {C : Nat → Option Nat} {st : St} {a : Act} {w : World}

theorem Inv.hanc (h : Inv B N nt C st a w) : ∀ id ∈ B.anc, ¬ N id := h.ancN

theorem less_ne {base id : Nat} (h : Less N base id) : id ≠ base := by rintro rfl; exact h.2 ⟨Nat.le_refl _, by omega⟩

/-- A cell that may lie in memory is one cell. -/
theorem lies_one {ok : Nat → Prop} {own : Nat → Option OwnB} {c : Cell} {v : Value} (hl : c.lies = true) (h : CRep w ok C own c v) : v.oneCell' = true := by
  cases c with
  | d x => cases x <;> cases h <;> rfl
  | nil => rw [show v = _ from h]; rfl
  | own id n => rcases h with ⟨_, h, _⟩ | ⟨_, _, _, _, h, _⟩ <;> rw [h] <;> rfl
  | box id off => obtain ⟨_, _, h⟩ := h; rw [h]; rfl
  | ep id i off => cases hl
  | view id lo n => cases hl
  | cp cs => obtain ⟨_, h, _⟩ := h; rw [h]; rfl
  | fn f caps => obtain ⟨_, h, _⟩ := h; rw [h]; rfl
  | nilp => rw [show v = _ from h]; rfl
  | nili => rw [show v = _ from h]; rfl
  | undef => cases hl
  | nilm => rw [show v = _ from h]; rfl
  | nilf => rw [show v = _ from h]; rfl
  | mapp id => obtain ⟨_, _, h⟩ := h; rw [h]; rfl
  | mapc ka va l => cases hl
  | mapg ka va me cl => cases hl
  | iterc id me cl l cu => cases hl
  | iters s p => cases hl
  | selfp id t => cases hl

/-- A value's cells in the model, and those of what it stands for. -/
theorem t1_cells {R : Cell → Value → Prop} {t : T1} {v : Value} (h : T1Rep R t v) (h1 : ∀ c ∈ t.cells, ∀ u, R c u → u.oneCell' = true) :
    v.cells.size = t.cells.length ∧ (∀ u ∈ v.cells.toList, u.oneCell' = true) ∧ ∀ (j : Nat) (c : Cell), t.cells[j]? = some c → ∃ u, v.cells[j]? = some u ∧ R c u := by
  cases t with
  | one c =>
    have ho := h1 c (by simp [T1.cells]) v h
    have hv : v.cells = #[v] := by cases v <;> first | rfl | cases ho
    rw [hv]
    refine ⟨rfl, fun u hu => ?_, fun j c' hj => ?_⟩
    · simp at hu; subst hu; exact ho
    · cases j with
      | zero => simp [T1.cells] at hj; subst hj; exact ⟨v, rfl, h⟩
      | succ j => simp [T1.cells] at hj
  | agg cs =>
    obtain ⟨vs, rfl, hs, hc⟩ := h
    refine ⟨hs, fun u hu => ?_, hc⟩
    obtain ⟨j, hj⟩ := List.getElem?_of_mem hu
    have hj' : vs[j]? = some u := by rw [Array.getElem?_toList] at hj; exact hj
    have hlt : j < cs.length := by rw [← hs]; exact (Array.getElem?_eq_some_iff.1 hj').1
    obtain ⟨u', hu', hr⟩ := hc j cs[j] (List.getElem?_eq_getElem hlt)
    have hj2 : vs[j]? = some u := hj'
    rw [hj2] at hu'
    injection hu' with hu'; subst hu'
    exact h1 cs[j] (List.getElem_mem hlt) _ hr

theorem new1_alloc (w : World) (o : Obj) : New1 w o { w with heap := w.heap.push o } := ⟨rfl, rfl, rfl, rfl⟩

theorem res_new_box {base : Nat} {cs : List Cell} (hr : Res N st) (href : ∀ c ∈ cs, ∀ r ∈ c.refs, ¬ N r) : Res (Less N base) { st with box := upd st.box base (some cs) } :=
  ⟨fun id hi => hr.own id hi.1, fun id hi => by simp only [upd_ne _ _ (less_ne hi)]; exact hr.box id hi.1, fun id hi => hr.t id hi.1, fun id hi j cs' c hj hc hrf => by
    by_cases hjb : j = base
    · subst hjb; simp only [upd_same, Option.some.injEq] at hj; subst hj; exact href c hc id hrf hi.1
    · simp only [upd_ne _ _ hjb] at hj; exact hr.cell id hi.1 j cs' c hj hc hrf⟩
theorem res_put_box {id0 : Nat} {cs cs0 : List Cell} (base : Nat) (hr : Res N st) (h0 : st.box id0 = some cs0) (href : ∀ c ∈ cs, ∀ r ∈ c.refs, ¬ N r) : Res (Less N base) { st with box := upd st.box id0 (some cs) } :=
  ⟨fun id hi => hr.own id hi.1, fun id hi => by
    have : id ≠ id0 := by rintro rfl; rw [hr.box _ hi.1] at h0; cases h0
    simp only [upd_ne _ _ this]; exact hr.box id hi.1, fun id hi => hr.t id hi.1, fun id hi j cs' c hj hc hrf => by
    by_cases hjb : j = id0
    · subst hjb; simp only [upd_same, Option.some.injEq] at hj; subst hj; exact href c hc id hrf hi.1
    · simp only [upd_ne _ _ hjb] at hj; exact hr.cell id hi.1 j cs' c hj hc hrf⟩
theorem res_new_own {base : Nat} {e : Option OwnB} (hr : Res N st) : Res (Less N base) { st with own := upd st.own base e } :=
  ⟨fun id hi => by simp only [upd_ne _ _ (less_ne hi)]; exact hr.own id hi.1, fun id hi => hr.box id hi.1, fun id hi => hr.t id hi.1, fun id hi => hr.cell id hi.1⟩
theorem res_put_own {id0 : Nat} {e e0 : OwnB} (base : Nat) (hr : Res N st) (h0 : st.own id0 = some e0) : Res (Less N base) { st with own := upd st.own id0 (some e) } :=
  ⟨fun id hi => by
    have : id ≠ id0 := by rintro rfl; rw [hr.own _ hi.1] at h0; cases h0
    simp only [upd_ne _ _ this]; exact hr.own id hi.1, fun id hi => hr.box id hi.1, fun id hi => hr.t id hi.1, fun id hi => hr.cell id hi.1⟩

theorem zcell_sound {ok : Nat → Prop} {own : Nat → Option OwnB} {c : Cell} {v : Value} (h : zcell c v = true) : CRep w ok C own c v ∧ c.refs = [] := by
  unfold zcell at h
  split at h
  · simp at h; obtain ⟨rfl, rfl⟩ := h; exact ⟨.int _ _, rfl⟩
  · simp at h; subst h; exact ⟨.bool _, rfl⟩
  · simp at h; subst h; exact ⟨str_rep _, rfl⟩
  · exact ⟨rfl, rfl⟩
  · exact ⟨rfl, rfl⟩
  · exact ⟨rfl, rfl⟩
  · exact ⟨rfl, rfl⟩
  · exact ⟨rfl, rfl⟩
  · exact ⟨trivial, rfl⟩
  · cases h
theorem zcells_sound {ok : Nat → Prop} {own : Nat → Option OwnB} : ∀ {cs : List Cell} {vs : List Value}, zcells cs vs = true → vs.length = cs.length ∧ (∀ c ∈ cs, c.refs = []) ∧
    ∀ (j : Nat) (c : Cell), cs[j]? = some c → ∃ u, vs[j]? = some u ∧ CRep w ok C own c u
  | [], [], _ => by simp
  | [], _ :: _, h => by simp [zcells] at h
  | _ :: _, [], h => by simp [zcells] at h
  | c :: cs, v :: vs, h => by
    simp only [zcells, Bool.and_eq_true] at h
    obtain ⟨e1, e2⟩ := zcell_sound (w := w) (C := C) (ok := ok) (own := own) h.1
    obtain ⟨f1, f2, f3⟩ := zcells_sound (ok := ok) (own := own) h.2
    refine ⟨by simp [f1], by simpa [e2] using f2, fun j c' hj => ?_⟩
    cases j with
    | zero => simp at hj; subst hj; exact ⟨v, rfl, e1⟩
    | succ j => simpa using f3 j c' (by simpa using hj)

theorem after_new_box (h : Inv B N nt C st a w) {base : Nat} (hN : ∀ j, j < 1000 → N (base + j)) {cs : List Cell} {arr : Array Value} {et : TypeId} (hl : arr.size = cs.length) (hct : ∀ c ∈ cs, c.atT et) (href : ∀ c ∈ cs, ∀ r ∈ c.refs, ¬ N r)
    (hd : ∀ (j : Nat) (c : Cell), cs[j]? = some c → ∃ v, arr[j]? = some v ∧ CRep w (okOf B st C w) C st.own c v) :
    After B N (Less N base) C st w ⟨.c (.box base 0), [], [(base, some cs)], [base]⟩ (.pointer (some ⟨w.heap.size, 0, none⟩)) (upd C base (some w.heap.size)) { w with heap := w.heap.push (.cells arr et) } where
  mm := h.toMm.new_box h.res h.ancN (hN 0 (by omega)) (new1_alloc w _) hl hct href hd
  keep := (Moves.new_box (cs := cs) (hN 0 (by omega)) h.res (new1_alloc w _)).keep
  val := ⟨w.heap.size, upd_same _ _ _, rfl⟩
  res := res_new_box h.res href
  vres r hr hn := by simp [TV.refs, T1.refs, Cell.refs] at hr; subst hr; exact less_ne hn rfl
  sub _ hi := hi.1

theorem sound_alloc (hΓ : TypesOk P Γ) (t : TypeId) : Sound P Γ (.alloc t) := by
  intro B N nt C st a w base e h hN he
  simp only [aeff] at he
  split at he
  case h_2 => cases he
  rename_i ti ht
  split at he
  case isFalse => cases he
  rename_i hall
  injection he with he; subst he
  obtain ⟨i, z, d, hi, hs, _, hz, hu, hzc, _, _, hone⟩ := TIok.facts (hΓ.ok t ti ht)
  obtain ⟨f1, f2, f3⟩ := zcells_sound (w := w) (ok := okOf B st C w) (C := C) (own := st.own) hzc
  refine ⟨_, _, _, runs_value fun o' ho => ?_, after_new_box (et := t) (arr := z.cells) h hN (by simpa using f1) (fun c hc => lies_at (by simpa using List.all_eq_true.1 hall c hc)) (fun c hc r hr => by rw [f2 c hc] at hr; cases hr) (fun j c hj => by simpa using f3 j c hj)⟩
  simp [execOp, ho, Instr.alloc, zeroValue, typeInfo, hi, hz, newVar, newRow]

theorem sound_box (t : TypeId) (x : Operand) : Sound P Γ (.box t x) := by
  intro B N nt C st a w base e h hN he
  simp only [aeff] at he
  split at he
  case h_2 => cases he
  rename_i tv h1
  split at he
  case isFalse => cases he
  rename_i hall
  injection he with he; subst he
  obtain ⟨e1, e2⟩ := ev_sound h h1
  have hlies : ∀ c ∈ tv.cells, c.lies = true := by simpa using hall
  have hrefs : ∀ c ∈ tv.cells, ∀ r ∈ c.refs, r ∈ (TV.v tv).refs := by
    intro c hc r hr
    cases tv with
    | one c' => simp [T1.cells] at hc; subst hc; exact hr
    | agg cs => exact List.mem_flatMap.2 ⟨c, hc, hr⟩
  obtain ⟨f1, f2, f3⟩ := t1_cells e1 (fun c hc u hu => lies_one (hlies c hc) hu)
  refine ⟨_, _, _, runs_value fun o' ho => ?_, after_new_box (et := t) (arr := (a.eval x).cells) h hN f1 (fun c hc => lies_at (hlies c hc)) (fun c hc r hr => e2 r (hrefs c hc r hr)) f3⟩
  simp [execOp, ho, Instr.box, newVar, newRow]
end
end Go.Eng
