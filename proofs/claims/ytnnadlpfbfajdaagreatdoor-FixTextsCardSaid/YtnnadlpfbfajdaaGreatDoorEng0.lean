/-
Arrays of one's own that are indexed; strings behind bytes of one's own.
-/
import Derived.Test.YtnnadlpfbfajdaaGreatDoorEng9
namespace Go.Eng
open Go Go.RowKit
set_option linter.unusedVariables false
set_option linter.unusedSimpArgs false

section
variable {P : Program} {Γ : Types} {o : Oper} {base : Nat} {st : St}
def rows1 (z : List D) : List (List D) := z.map fun x => [x]
theorem rows1_get {z : List D} {i j : Nat} {cs : List D} {x : D} (hi : (rows1 z)[i]? = some cs) (hj : cs[j]? = some x) : j = 0 ∧ z[i]? = some x := by
  unfold rows1 at hi
  rw [List.getElem?_map, Option.map_eq_some_iff] at hi
  obtain ⟨y, hy, rfl⟩ := hi
  cases j with
  | zero => simp at hj; subst hj; exact ⟨rfl, hy⟩
  | succ j => simp at hj
/-- A new array, cell by cell. -/
theorem does_allocA (hΓ : TypesOk P Γ) {t et : TypeId} {len : Nat} {ti : TI} {z : List D} (ht : Γ.lookup t = some ti) (hz : toDs ti.zero = some z) (hzl : z.length ≤ 9223372036854775807) (hop : o.op = .alloc t) :
    Does P o base st ⟨.c (.ep base 0 0), [(base, some ⟨t, 1, rows1 z⟩)], [], []⟩ := by
  refine does_runs fun B N nt C a w h hN => ?_
  obtain ⟨i, zv, d, hi, hs, _, hzz, hu, hzc, _, _, hone⟩ := TIok.facts (hΓ.ok t ti ht)
  obtain ⟨z1, z2, z3⟩ := zcells_sound (w := w) (ok := okOf B st C w) (C := C) (own := st.own) hzc
  obtain ⟨f1, f2, f3⟩ := toDs_sound (w := w) (ok := okOf B st C w) (C := C) (own := st.own) hz
  have hsz : zv.cells.size = z.length := by have : zv.cells.toList.length = ti.zero.length := z1; simp at this; omega
  have hxl : (rows1 z).length = z.length := by simp [rows1]
  have hn : New1 w (.cells zv.cells t) { w with heap := w.heap.push (.cells zv.cells t) } := new1_alloc w _
  have hA := after_new_own (e := ⟨t, 1, rows1 z⟩) (us := []) (c := z.length) h hN hn Nat.one_pos (by simp [hsz]) (by rw [hxl]; exact Nat.le_refl _) hzl
    (fun cs hcs => by unfold rows1 at hcs; obtain ⟨x, _, rfl⟩ := List.mem_map.1 hcs; rfl)
    (fun i j cs x hi hj => by
      obtain ⟨rfl, hx⟩ := rows1_get hi hj
      obtain ⟨c, hc, hcr⟩ := f3 i x hx
      obtain ⟨u, hu, hur⟩ := z3 i c hc
      refine ⟨u, ?_, hcr u hur⟩
      have : zv.cells[i]? = some u := by simpa using hu
      simpa using this)
  refine ⟨.pointer (some ⟨w.heap.size, 0, none⟩), _, _, ?_, ⟨hA.mm, hA.keep, ?_, hA.res, ?_, hA.sub⟩⟩
  · rw [hop]
    refine runs_value fun o' ho => ?_
    simp [execOp, ho, Instr.alloc, zeroValue, typeInfo, hi, hzz, newVar, newRow]
  · intro e' he'
    have he2 : upd st.own base (some (⟨t, 1, rows1 z⟩ : OwnB)) base = some e' := he'
    rw [upd_same] at he2; injection he2 with he2; subst he2
    exact ⟨w.heap.size, upd_same _ _ _, by simp⟩
  · intro r hr hn'
    simp [TV.refs, T1.refs, Cell.refs] at hr; subst hr; exact less_ne hn' rfl
/-- A literal that is data at once. -/
theorem does_bsD (hΓ : TypesOk P Γ) {t et : TypeId} {len : Nat} {parts : Array (Nat × Operand)} {ti te : TI} {xs : List (List D)} (ht : Γ.lookup t = some ti) (hkt : ti.kind = .slice et) (hte : Γ.lookup et = some te)
    (hxs : litRow te.sz st 0 parts.toList = some xs) (hc1 : xs.length = len) (hc2 : 0 < te.sz) (hc3 : len * te.sz ≤ 16777216) (hop : o.op = .buildSlice t len parts) :
    Does P o base st ⟨.c (.d (.lst xs)), [], [], []⟩ := by
  refine does_runs fun B N nt C a w h hN => ?_
  obtain ⟨_, _, d, _, _, _, _, hu, _, hk, _⟩ := TIok.facts (hΓ.ok t _ ht)
  obtain ⟨ei, ez, _, hei, hes, _, hez, _⟩ := TIok.facts (hΓ.ok et _ hte)
  rw [hkt] at hk
  rw [kind_slice hk] at hu
  have key : ∀ arr : Array Value, arr.size = len * te.sz → ∃ r, Instr.fill (fun i => some (i * te.sz, te.sz)) arr (parts.map fun (j, x) => (j, a.eval x)).toList = some r ∧
      After B N (Less N base) C st w ⟨.c (.d (.lst xs)), [], [], []⟩ (.slice (some ⟨w.heap.size, 0, none⟩) len len) C { w with heap := w.heap.push (.cells r et) } := by
    intro arr harr
    obtain ⟨r, r1, r2, _, r4, r5⟩ := fill_row h te.sz parts.toList 0 xs arr hxs (by rw [harr, hc1]; simp)
    refine ⟨r, by simpa using r1, ?_⟩
    have hn1 : New1 w (.cells r et) { w with heap := w.heap.push (.cells r et) } := new1_alloc w _
    have hm := h.toMm.new_data h.res h.ancN hn1
    refine ⟨hm, (Moves.new_data (N := N) h.toMm hn1).keep, ?_, h.res.less fun _ hi => hi.1, fun r hr => by simp [TV.refs, T1.refs, Cell.refs] at hr, fun _ hi => hi.1⟩
    show DRep _ _ (.lst xs) (.slice (some ⟨w.heap.size, 0, none⟩) len len)
    by_cases h0 : xs = []
    · subst h0
      simp only [List.length_nil] at hc1
      subst hc1
      exact .lnil _ _
    · have hok : okOf B (st.mem ⟨.c (.d (.lst xs)), [], [], []⟩) C { w with heap := w.heap.push (.cells r et) } w.heap.size := by
        refine ⟨by rw [hn1.heap]; simp, fun hb => ?_, fun id hl hc => ?_⟩
        · have := h.badlt.lt _ hb; have := h.fr.size; omega
        · exact absurd (h.block_lt hl hc) (Nat.lt_irrefl _)
      have hcell : ∀ n : Nat, ({ w with heap := w.heap.push (.cells r et) } : World).cell? ((⟨w.heap.size, 0, none⟩ : Addr).add n) = r[n]? := by
        intro n
        have e : (⟨w.heap.size, 0, none⟩ : Addr).add n = ⟨w.heap.size, n, none⟩ := by unfold Addr.add; split <;> simp_all
        rw [e]
        simp [World.cell?]
      have key := DRep.lst (w := { w with heap := w.heap.push (.cells r et) }) (ok := okOf B (st.mem ⟨.c (.d (.lst xs)), [], [], []⟩) C { w with heap := w.heap.push (.cells r et) })
        xs ⟨w.heap.size, 0, none⟩ len te.sz (fun i j => (r[i * te.sz + j]?).getD .nilIface) h0 (Nat.le_of_eq hc1) hok r4
        (fun i j cs x hi hj => by
          obtain ⟨v, hv, _⟩ := r5 i j cs x hi hj
          have hv' : r[i * te.sz + j]? = some v := by simpa using hv
          rw [hcell, hv']; rfl)
        (fun i j cs x hi hj => by
          obtain ⟨v, hv, hd⟩ := r5 i j cs x hi hj
          have hv' : r[i * te.sz + j]? = some v := by simpa using hv
          rw [hv']
          refine hd.mono (fun b hb => hn1.old hb.1) (fun b hb => ⟨by have := hb.1; rw [hn1.heap]; simp; omega, hb.2.1, hb.2.2⟩))
      rw [hc1] at key
      exact key
  by_cases h0 : len * te.sz = 0
  · obtain ⟨r, r1, r2⟩ := key ((Array.range (len * te.sz)).map (fun x => (#[] : Array Value)[x % (#[] : Array Value).size]!)) (by simp)
    refine ⟨_, _, _, ?_, r2⟩
    rw [hop]
    refine runs_value fun o' ho => ?_
    have h16 : ¬ (16777216 < len * te.sz) := by omega
    simp only [execOp, ho, Instr.buildSlice, Sem.run_bind, run_underlying hu, Result.andThen_ok, sizeOf, typeInfo, run_program, hei, Sem.run_pure, hes]
    simp [h16, h0] at r1 ⊢
    simp [r1, newRow]
  · obtain ⟨r, r1, r2⟩ := key ((Array.range (len * te.sz)).map (fun x => ez.cells[x % ez.cells.size]!)) (by simp)
    refine ⟨_, _, _, ?_, r2⟩
    rw [hop]
    refine runs_value fun o' ho => ?_
    have h16 : ¬ (16777216 < len * te.sz) := by omega
    simp only [execOp, ho, Instr.buildSlice, Sem.run_bind, run_underlying hu, Result.andThen_ok, sizeOf, typeInfo, run_program, hei, Sem.run_pure, hes]
    simp only [h16, h0, if_false, Sem.run_ite, Sem.run_bind, Sem.run_pure, zeroValue, typeInfo, run_program, hei, Result.andThen_ok, hez]
    simp at r1 ⊢
    simp [h16, r1, newRow, hei, hez]
def bsX (Γ : Types) (st : St) (t : TypeId) (len : Nat) (parts : Array (Nat × Operand)) : Option (List (List D)) := match Γ.lookup t with
  | some ⟨_, _, _, _, .slice et⟩ => match Γ.lookup et with
    | some te => match litRow te.sz st 0 parts.toList with
      | some xs => if xs.length = len ∧ 0 < te.sz ∧ len * te.sz ≤ 16777216 then some xs else none
      | none => none
    | none => none
  | _ => none
theorem stable_bsD {ops : Array Oper} {V : St → Prop} {U : List Nat} [hΓ : TOk P Γ] {t : TypeId} {len : Nat} {parts : Array (Nat × Operand)} {xs : List (List D)} (ho : o.op = .buildSlice t len parts)
    (hc : bsX Γ st t len parts = some xs) : Stable V P ops o base st ⟨.c (.d (.lst xs)), [], [], []⟩ U := by
  intro σ hσ _
  unfold bsX at hc
  split at hc
  · rename_i et ht
    split at hc
    · rename_i te hte
      split at hc
      · rename_i ys hys
        split at hc
        · rename_i h3
          injection hc with hc; subst hc
          refine does_bsD hΓ.ok ht rfl hte ?_ h3.1 h3.2.1 h3.2.2 ho
          rw [litRow_congr (st := st)]
          · exact hys
          · intro x hx
            refine agree_ev hσ x ?_
            rw [ho]
            obtain ⟨p, hp, rfl⟩ := List.mem_map.1 hx
            simp [Op.operands]
            exact ⟨p.1, by simpa using hp⟩
        · cases hc
      · cases hc
    · cases hc
  · cases hc
end

section
variable {P : Program} {Γ : Types} {A nt : Nat} {ops : Array Oper} {base k : Nat} {o : Oper} {l : List Oper} {K : St → Prop} {st : St} {α : Type}
def arZ (Γ : Types) (t : TypeId) : Option (List (List D)) := match Γ.lookup t with
  | some ti => match toDs ti.zero with
    | some z => bif Nat.ble z.length 9223372036854775807 then some (rows1 z) else none
    | none => none
  | none => none
/-- A new array. -/
theorem aAr [hΓ : TOk P Γ] (f : α → List D) (xs : List α) {t : TypeId} (ho : o.op = .alloc t)
    (hn : Aops P nt ops base (k + 1) l K (st.app o.dst ⟨.c (.ep (base + 1000 * k) 0 0), [(base + 1000 * k, some ⟨t, 1, xs.map f⟩)], [], []⟩))
    (hc : arZ Γ t = some (xs.map f) := by kernel_rfl) (hg : (dstOk nt o.dst && guardT ops o st) = true := by kernel_rfl) : Aops P nt ops base k (o :: l) K st := by
  unfold arZ at hc
  split at hc
  · rename_i ti h1
    split at hc
    · rename_i z h2
      cases hb : Nat.ble z.length 9223372036854775807 with
      | false => rw [hb] at hc; cases hc
      | true =>
        rw [hb] at hc
        injection hc with hc
        have hd := does_allocA (o := o) (st := st) (base := base + 1000 * k) (et := 0) (len := 0) hΓ.ok h1 h2 (Nat.le_of_ble_eq_true hb) ho
        rw [hc] at hd
        exact aDo hd hn hg
    · cases hc
  · cases hc
def arB (Γ : Types) (st : St) (t : TypeId) (x : Operand) : Option (Nat × Nat) := match Γ.lookup t, st.ev x with
  | some ⟨_, _, _, _, .array len et⟩, some (.v (.one (.ep id 0 0))) => match Γ.lookup et, st.own id with
    | some te, some e => if te.sz = e.sz then some (id, len) else none
    | _, _ => none
  | _, _ => none
theorem x_ixA (id len : Nat) {t : TypeId} {x i : Operand} {n : Int} (h : (decide (0 ≤ n) && decide (n < (len : Int))) = true)
    (hc : (arB Γ st t x, evI st i) = (some (id, len), some n) := by kernel_rfl) : aeff Γ base (.indexAddr t x i) st = some ⟨.c (.ep id n.toNat 0), [], [], [id]⟩ := by
  injection hc with h1 h2
  obtain ⟨q, h3⟩ := evI_spec h2
  rw [Bool.and_eq_true, decide_eq_true_eq, decide_eq_true_eq] at h
  unfold arB at h1
  split at h1
  · rename_i et id' ht hx
    split at h1
    · rename_i te e hte ho
      split at h1
      · rename_i hsz
        injection h1 with h1; injection h1 with h1 h4; subst h1 h4
        simp only [aeff, ht, hx, h3, hte, ho]
        rw [if_pos ⟨h.1, h.2, hsz⟩]
      · cases h1
    · cases h1
  · cases h1
end
end Go.Eng
