/-
Each operation of the model does what the reckoned effect says: stores, make, append, builtins.
-/
import Derived.Test.YtnnadlpfbfajdaaGreatDoorEngK
import Derived.Laws.CopyRow
namespace Go.Eng
open Go
set_option linter.unusedVariables false
set_option linter.unusedSimpArgs false

section
variable {P : Program} {Γ : Types} {B : Base} {N : Nat → Prop} {nt : Nat} {C : Nat → Option Nat} {st : St} {a : Act} {w : World}

theorem put1_setRow {g : Nat} {old cs : Array Value} {t : TypeId} (hg : w.heap[g]? = some (.cells old t (0, 0))) : Put1 w g (.cells cs t (0, 0)) (w.setRow g cs) :=
  ⟨rfl, rfl, rfl, setRow_size _ _ _, setRow_heap _ _ _ _ _ _ hg, fun b hb => setRow_other _ _ _ _ hb⟩

theorem run_storeVar {t : TypeId} {ti : TI} (hti : TIok P t ti = true) {b o : Nat} {arr : Array Value} {et : TypeId} (hh : w.heap[b]? = some (.cells arr et (0, 0))) (v : Value) (hv : v.cells.size = ti.sz)
    (hfit : o + ti.sz ≤ arr.size) (h1 : ∀ u ∈ v.cells.toList, u.oneCell' = true) :
    (storeVar t ⟨b, o, none⟩ v).run P w = .ok () (w.setRow b (arr.toList.take o ++ v.cells.toList ++ arr.toList.drop (o + ti.sz)).toArray) := by
  obtain ⟨i, _, d, hi, hs, _⟩ := TIok.facts hti
  have := run_storeCells_at P b o et v.cells.toList 0 arr w hh (by simp [hv]; omega) h1
  simp only [storeVar, Sem.run_bind, sizeOf, typeInfo, run_program, Result.andThen_ok, hi, Sem.run_pure, hs, hv]
  simp only [Nat.add_zero, Array.length_toList, hv] at this
  simp [this]

theorem sound_store (hΓ : TypesOk P Γ) (t : TypeId) (x y : Operand) : Sound P Γ (.store t x y) := by
  intro B N nt C st a w base e h hN he
  simp only [aeff] at he
  split at he
  · rename_i ti id off v ht h1 h2
    split at he
    case h_2 => cases he
    rename_i cs hbx
    split at he
    case isFalse => cases he
    rename_i hc
    obtain ⟨hc1, hc2, hc3, hc4⟩ := hc
    injection he with he; subst he
    obtain ⟨b, hb, hv⟩ := (ev_sound h h1).1
    obtain ⟨e2, e2r⟩ := ev_sound h h2
    obtain ⟨b', arr, et, hb', hh, hsz, hct, hcell⟩ := (h.box id cs hbx).cells hc4
    rw [hb] at hb'; cases hb'
    have hlies : ∀ c ∈ v.cells, c.lies = true := by simpa using hc3
    obtain ⟨g1, g2, g3⟩ := t1_cells e2 (fun c hc u hu => lies_one (hlies c hc) hu)
    have hrun := run_storeVar (P := P) (hΓ.ok t ti ht) (o := off) hh (a.eval y) (by rw [g1, hc1]) (by rw [hsz]; exact hc2) g2
    have hcs : CsRep (CRep w (okOf B st C w) C st.own) cs arr.toList := ⟨by simpa using hsz, fun j c hj => by simpa using hcell j c hj⟩
    have hnew : CsRep (CRep w (okOf B st C w) C st.own) (cs.take off ++ v.cells ++ cs.drop (off + ti.sz)) (arr.toList.take off ++ (a.eval y).cells.toList ++ arr.toList.drop (off + ti.sz)) :=
      ((hcs.take off).append ⟨by simpa using g1, fun j c hj => by simpa using g3 j c hj⟩).append (hcs.drop (off + ti.sz))
    have hrefs : ∀ c ∈ cs.take off ++ v.cells ++ cs.drop (off + ti.sz), ∀ r ∈ c.refs, ¬ N r := by
      intro c hc r hr hn
      simp only [List.mem_append] at hc
      rcases hc with (hc | hc) | hc
      · exact h.res.cell r hn id cs c hbx (List.mem_of_mem_take hc) hr
      · refine e2r r ?_ hn
        cases v with
        | one c' => simp [T1.cells] at hc; subst hc; exact hr
        | agg l => exact List.mem_flatMap.2 ⟨c, hc, hr⟩
      · exact h.res.cell r hn id cs c hbx (List.mem_of_mem_drop hc) hr
    have hct' : ∀ c ∈ cs.take off ++ v.cells ++ cs.drop (off + ti.sz), c.atT et := by
      intro c hc
      simp only [List.mem_append] at hc
      rcases hc with (hc | hc) | hc
      · exact hct c (List.mem_of_mem_take hc)
      · exact lies_at (hlies c hc)
      · exact hct c (List.mem_of_mem_drop hc)
    obtain ⟨A, hA⟩ : ∃ A, A = (arr.toList.take off ++ (a.eval y).cells.toList ++ arr.toList.drop (off + ti.sz)).toArray := ⟨_, rfl⟩
    rw [← hA] at hrun
    rw [show arr.toList.take off ++ (a.eval y).cells.toList ++ arr.toList.drop (off + ti.sz) = A.toList by rw [hA]] at hnew
    obtain ⟨hm1, hm2⟩ := h.toMm.put_box h.res h.ancN hbx hb hh (put1_setRow (cs := A) hh) (by have := hnew.1; rwa [Array.length_toList] at this) (by have := hnew.1; rw [Array.length_toList] at this; rw [this, hsz]; simp; omega) hct' hrefs
      (fun j c hj => by obtain ⟨u, hu, hr⟩ := hnew.2 j c hj; exact ⟨u, by rw [← Array.getElem?_toList]; exact hu, hr⟩)
    refine ⟨Go.undef, _, C, fun o' ho => .inr ⟨?_, rfl⟩, ⟨hm2, hm1.keep, trivial, res_put_box base h.res hbx hrefs, fun r hr => by simp [TV.refs, T1.refs, Cell.refs] at hr, fun _ hi => hi.1⟩⟩
    simp [execOp, ho, hv, Instr.storeAt, Instr.sureAddr, hrun]
  · rename_i ti id i off v ht h1 h2
    split at he
    case h_2 => cases he
    rename_i oe vs ho hvs
    split at he
    case h_2 => cases he
    rename_i ds hds
    split at he
    case isFalse => cases he
    rename_i hc
    obtain ⟨hc1, hc2⟩ := hc
    injection he with he; subst he
    obtain ⟨b, hb, hv⟩ := (ev_sound h h1).1 oe ho
    obtain ⟨e2, e2r⟩ := ev_sound h h2
    obtain ⟨h0, arr, hh, hle, hls, hcell⟩ := own_block h ho hb
    obtain ⟨f1, f2, f3⟩ := toDs_sound (w := w) (ok := okOf B st C w) (C := C) (own := st.own) hvs
    obtain ⟨g1, g2, g3⟩ := t1_cells e2 (fun c hc u hu => lies_one (f2 c hc).1 hu)
    have hil : i < oe.xs.length := (List.getElem?_eq_some_iff.1 hds).1
    have hdl : ds.length = oe.sz := hls ds (List.mem_of_getElem? hds)
    have hpos : (i + 1) * oe.sz ≤ arr.size := Nat.le_trans (Nat.mul_le_mul_right _ hil) hle
    rw [Nat.add_mul, Nat.one_mul] at hpos
    have hrun := run_storeVar (P := P) (hΓ.ok t ti ht) (o := i * oe.sz + off) hh (a.eval y) (by rw [g1, ← f1, hc1]) (by omega) g2
    obtain ⟨A, hA⟩ : ∃ A, A = (arr.toList.take (i * oe.sz + off) ++ (a.eval y).cells.toList ++ arr.toList.drop (i * oe.sz + off + ti.sz)).toArray := ⟨_, rfl⟩
    have hcl : (a.eval y).cells.toList.length = ti.sz := by simp [g1, ← f1, hc1]
    have hAs : A.size = arr.size := by rw [hA]; simp [g1, ← f1, hc1]; omega
    have hAt : ∀ k, A[k]? = if k < i * oe.sz + off then arr[k]? else if k < i * oe.sz + off + ti.sz then (a.eval y).cells[k - (i * oe.sz + off)]? else arr[k]? := by
      intro k
      rw [hA, List.getElem?_toArray]
      have hl0 : (arr.toList.take (i * oe.sz + off)).length = i * oe.sz + off := by simp; omega
      by_cases k1 : k < i * oe.sz + off
      · rw [if_pos k1, List.append_assoc, List.getElem?_append_left (by omega), List.getElem?_take, if_pos k1, Array.getElem?_toList]
      · rw [if_neg k1, List.append_assoc, List.getElem?_append_right (by omega), hl0]
        by_cases k2 : k < i * oe.sz + off + ti.sz
        · rw [if_pos k2, List.getElem?_append_left (by omega), Array.getElem?_toList]
        · rw [if_neg k2, List.getElem?_append_right (by omega), hcl, List.getElem?_drop, Array.getElem?_toList]
          congr 1; omega
    rw [← hA] at hrun
    obtain ⟨hm1, hm2⟩ := h.toMm.put_own (xs' := oe.xs.set i (ds.take off ++ vs ++ ds.drop (off + ti.sz))) h.res h.ancN ho hb hh (put1_setRow (cs := A) hh) hAs (by simp) (by rw [hAs]; simpa using hle)
      (fun cs hcs => by
        rcases List.mem_or_eq_of_mem_set hcs with hcs | rfl
        · exact hls cs hcs
        · simp; omega)
      (fun i' j cs x hi hj => by
        by_cases hii : i' = i
        · subst hii
          rw [List.getElem?_set_self hil] at hi
          injection hi with hi; subst hi
          have htl : (ds.take off).length = off := by simp; omega
          rw [hAt]
          by_cases j1 : j < off
          · rw [List.append_assoc, List.getElem?_append_left (by omega), List.getElem?_take, if_pos j1] at hj
            rw [if_pos (by omega)]
            exact hcell i' j ds x hds hj
          · rw [if_neg (by omega)]
            rw [List.append_assoc, List.getElem?_append_right (by omega), htl] at hj
            by_cases j2 : j < off + ti.sz
            · rw [List.getElem?_append_left (by omega)] at hj
              rw [if_pos (by omega)]
              obtain ⟨c, hc, hcr⟩ := f3 _ x hj
              obtain ⟨u, hu, hur⟩ := g3 _ c hc
              exact ⟨u, by rw [show i' * oe.sz + j - (i' * oe.sz + off) = j - off by omega]; exact hu, hcr u hur⟩
            · rw [List.getElem?_append_right (by omega), List.getElem?_drop] at hj
              rw [if_neg (by omega)]
              exact hcell i' j ds x hds (by rw [← hj]; congr 1; omega)
        · rw [List.getElem?_set_ne (by omega)] at hi
          obtain ⟨u, hu, hr⟩ := hcell i' j cs x hi hj
          have hjl : j < oe.sz := by rw [← hls cs (List.mem_of_getElem? hi)]; exact (List.getElem?_eq_some_iff.1 hj).1
          refine ⟨u, ?_, hr⟩
          rw [hAt]
          rcases Nat.lt_or_gt_of_ne hii with hlt | hgt
          · have : (i' + 1) * oe.sz ≤ i * oe.sz := Nat.mul_le_mul_right _ hlt
            rw [Nat.add_mul, Nat.one_mul] at this
            rw [if_pos (by omega)]; exact hu
          · have : (i + 1) * oe.sz ≤ i' * oe.sz := Nat.mul_le_mul_right _ hgt
            rw [Nat.add_mul, Nat.one_mul] at this
            rw [if_neg (by omega), if_neg (by omega)]; exact hu)
    refine ⟨Go.undef, _, C, fun o' ho' => .inr ⟨?_, rfl⟩, ⟨hm2, hm1.keep, trivial, res_put_own base h.res ho, fun r hr => by simp [TV.refs, T1.refs, Cell.refs] at hr, fun _ hi => hi.1⟩⟩
    simp [execOp, ho', hv, Instr.storeAt, Instr.sureAddr, hrun]
  · cases he

theorem sound_makeSlice (hΓ : TypesOk P Γ) (t : TypeId) (l c : Operand) : Sound P Γ (.makeSlice t l c) := by
  intro B N nt C st a w base e h hN he
  simp only [aeff] at he
  split at he
  case h_2 => cases he
  rename_i et n m ht h1 h2
  split at he
  case h_2 => cases he
  rename_i te hte
  split at he
  case h_2 => cases he
  rename_i z hz
  split at he
  case isFalse => cases he
  rename_i hc
  obtain ⟨c1, c2, c3, c4, c5, c6⟩ := hc
  injection he with he; subst he
  obtain ⟨_, _, d, _, _, _, _, hu, _, hk, _⟩ := TIok.facts (hΓ.ok t _ ht)
  obtain ⟨ei, ez, _, hei, hes, heb, hez, _, hzc, _⟩ := TIok.facts (hΓ.ok et _ hte)
  rw [kind_slice hk] at hu
  obtain ⟨z1, z2, z3⟩ := zcells_sound (w := w) (ok := okOf B st C w) (C := C) (own := st.own) hzc
  obtain ⟨f1, f2, f3⟩ := toDs_sound (w := w) (ok := okOf B st C w) (C := C) (own := st.own) hz
  have e1 := rep_int (ev_sound h h1).1
  have e2 := rep_int (ev_sound h h2).1
  have hezs : ez.cells.size = te.sz := by have : ez.cells.toList.length = te.zero.length := z1; simp at this; omega
  have hm63 : m ≤ 9223372036854775807 := by simp only [LIM] at c3; omega
  have hb48 : (ei.bytes : Int) * m ≤ 281474976710656 := by
    rw [heb]
    have : (te.bytes : Int) * m ≤ 1024 * 137438953472 := by
      simp only [LIM] at c3
      exact Int.mul_le_mul (by omega) (by omega) (by omega) (by omega)
    omega
  have hrun := run_make (P := P) w t et ei ez hu hei hez .i64 .i64 n m c1 c2 hb48 hm63
  have hfin := after_new_own (e := ⟨et, te.sz, List.replicate n.toNat z⟩) (us := [base]) (c := m.toNat) h hN (new1_alloc w (.cells (madeCells ez.cells (m.toNat * ei.size)) et)) c5 (by rw [size_madeCells, hes]) (by simp; omega) (by omega)
    (fun cs hcs => by rw [(List.mem_replicate.1 hcs).2]; exact c6)
    (fun i j cs x hi hj => by
      obtain ⟨hi1, hi2⟩ := List.getElem?_eq_some_iff.1 hi
      simp at hi1 hi2
      subst hi2
      obtain ⟨c, hc, hcr⟩ := f3 j x hj
      obtain ⟨u, hu, hur⟩ := z3 j c hc
      refine ⟨u, ?_, hcr u hur⟩
      have hjl : j < te.sz := by rw [← c6]; exact (List.getElem?_eq_some_iff.1 hj).1
      have hlt : i * te.sz + j < m.toNat * ei.size := by
        rw [hes]
        have : (i + 1) * te.sz ≤ m.toNat * te.sz := Nat.mul_le_mul_right _ (by omega)
        rw [Nat.add_mul, Nat.one_mul] at this
        omega
      simp only [madeCells, Array.getElem?_map]
      rw [Array.getElem?_range, if_pos hlt]
      have hmod : (i * te.sz + j) % te.sz = j := by rw [Nat.mul_comm, Nat.mul_add_mod]; exact Nat.mod_eq_of_lt hjl
      simp only [Option.map_some, hezs, hmod]
      have hu' : ez.cells[j]? = some u := by simpa using hu
      rw [getElem!_def, hu'])
  refine ⟨_, _, _, runs_value fun o' ho => ?_, hfin⟩
  have hl : (List.replicate n.toNat z).length = n.toNat := by simp
  simp only [execOp, ho, e1, e2, Sem.run_bind, hrun, Result.andThen_ok, hl]
  rfl
end
end Go.Eng
