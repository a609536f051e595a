/-
A builder of strings: a row that points to itself; strings behind bytes of one's own; a builder's string.
-/
import Derived.Test.YtnnadlpfbfajdaaGreatDoorEng0
import Derived.Lib.AppendStr
namespace Go.Eng
open Go Go.RowKit
set_option linter.unusedVariables false
set_option linter.unusedSimpArgs false

section
variable {B : Base} {C : Nat → Option Nat} {st : St} {w w' : World} {N : Nat → Prop}
theorem mm_box (h : Mm B C st w) {id : Nat} {cs cs' : List Cell} (hb : st.box id = some cs) (hk : BoxOk w (CRep w (okOf B st C w) C st.own) C id cs') : Mm B C { st with box := upd st.box id (some cs') } w := by
  have he := okOf_same (B := B) (C := C) (w := w) (cs' := cs') hb
  refine { own := fun j e hj => ?_, box := fun j ds hj => ?_, excl := fun j => ?_, inj := fun j j' b h1 h2 => ?_, wr := fun j b h1 => ?_, anc := h.anc, fr := h.fr, nb := fun j b h1 => ?_, badlt := h.badlt }
  · rw [he]; exact h.own j e hj
  · rw [he]
    by_cases hji : j = id
    · subst hji
      simp only [upd_same, Option.some.injEq] at hj
      subst hj
      exact hk
    · simp only [upd_ne _ _ hji] at hj
      exact h.box j ds hj
  · by_cases hji : j = id
    · subst hji
      rcases h.excl j with h1 | h1
      · exact .inl h1
      · rw [hb] at h1; cases h1
    · simp only [upd_ne _ _ hji]; exact h.excl j
  · exact h.inj j j' b ((live_same hb j).1 h1) ((live_same hb j').1 h2)
  · exact h.wr j b ((live_same hb j).1 h1)
  · exact h.nb j b ((live_same hb j).1 h1)

/-- A block of one's own that is let go of, and whose row is marked. -/
theorem Mm.loose (h : Mm B C st w) {j g : Nat} {e : OwnB} {arr : Array Value} {et : TypeId} {k0 : Nat × Nat} (ho : st.own j = some e) (hg : C j = some g) (hh : w.heap[g]? = some (.cells arr et k0))
    (hat : ∃ arr' fz, w'.heap[g]? = some (.cells arr' et fz) ∧ arr'.size = arr.size) (hfar : ∀ k, k < w.heap.size → k ≠ g → w'.heap[k]? = w.heap[k]?) (hsz : w.heap.size ≤ w'.heap.size)
    (h1 : w'.os = w.os) (h2 : w'.tape = w.tape) (h3 : w'.output = w.output) : Mm B C { st with own := upd st.own j none } w' := by
  have hl : Live st j := .inl (by rw [ho]; simp)
  have live' : ∀ i, Live { st with own := upd st.own j none } i → Live st i ∧ i ≠ j := fun i hi => by
    rcases hi with hi | hi
    · by_cases hij : i = j
      · subst hij; simp [upd] at hi
      · exact ⟨.inl (by simpa [upd, hij] using hi), hij⟩
    · refine ⟨.inr hi, ?_⟩
      rintro rfl
      rcases h.excl i with h0 | h0
      · rw [ho] at h0; cases h0
      · exact hi h0
  have hgl : g < w.heap.size := h.block_lt hl hg
  have hr : Res (fun _ => False) st := ⟨fun _ h => h.elim, fun _ h => h.elim, fun _ h => h.elim, fun _ h => h.elim⟩
  have hne : ∀ {i b : Nat}, Live st i → i ≠ j → C i = some b → b ≠ g := fun h4 h5 h6 h7 => by subst h7; exact h5 (h.inj _ _ _ h4 hl h6 hg)
  have hm : Moves B (fun _ => False) C st w C { st with own := upd st.own j none } w' :=
    ⟨fun b hb => hfar b hb.1 fun e => hb.2.2 j hl (e ▸ hg), fun b hb => ⟨Nat.lt_of_lt_of_le hb.1 hsz, hb.2.1, fun i hi => hb.2.2 i (live' i hi).1⟩, fun _ _ => rfl, fun i _ e' he' => by
      by_cases hij : i = j
      · subst hij; simp [upd] at he'
      · simp only [upd_ne _ _ hij] at he'
        refine ⟨e', he', rfl, rfl, rfl, fun b arr1 hb' h4 => ⟨arr1, ?_, rfl⟩⟩
        have hli : Live st i := .inl (by rw [he']; simp)
        rw [hfar b (h.block_lt hli hb') (hne hli hij hb')]
        exact h4⟩
  have fr : Fr B.w0 B.Wr w' := by
    refine ⟨h1.trans h.fr.os, h2.trans h.fr.tape, h3.trans h.fr.output, Nat.le_trans h.fr.size hsz, fun b hb hn => ?_, fun b a1 et1 k1 h4 => ?_⟩
    · rw [hfar b (Nat.lt_of_lt_of_le hb h.fr.size) ?_]
      · exact h.fr.block b hb hn
      · rintro rfl
        rcases h.wr j b hl hg with h5 | h5
        · exact hn h5
        · omega
    · obtain ⟨a2, k2, g1, g2⟩ := h.fr.sz b a1 et1 k1 h4
      by_cases hbg : b = g
      · subst hbg
        rw [hh] at g1
        cases g1
        obtain ⟨a3, fz, g3, g4⟩ := hat
        exact ⟨a3, fz, g3, g4.trans g2⟩
      · exact ⟨a2, k2, by rw [hfar b (Array.getElem?_eq_some_iff.1 g1).1 hbg]; exact g1, g2⟩
  refine h.step hr hm fr (fun _ _ h => h) ?_ ?_ ?_ ?_ ?_ ?_
  · intro i e' he'
    by_cases hij : i = j
    · subst hij; simp [upd] at he'
    · simp only [upd_ne _ _ hij] at he'
      have hli : Live st i := .inl (by rw [he']; simp)
      exact .inl ⟨he', fun b hb => hfar b (h.block_lt hli hb) (hne hli hij hb)⟩
  · intro i cs he
    have hli : Live st i := .inr (by rw [show st.box i = some cs from he]; simp)
    have hij : i ≠ j := by
      rintro rfl
      rcases h.excl i with h0 | h0
      · rw [ho] at h0; cases h0
      · rw [show st.box i = some cs from he] at h0; cases h0
    exact .inl ⟨he, fun b hb => hfar b (h.block_lt hli hb) (hne hli hij hb)⟩
  · intro i
    by_cases hij : i = j
    · subst hij; exact .inl (upd_same _ _ _)
    · simp only [upd_ne _ _ hij]; exact h.excl i
  · exact fun i i' b hi hi' => h.inj i i' b (live' i hi).1 (live' i' hi').1
  · exact fun i b hi => h.wr i b (live' i hi).1
  · exact fun i b hi => h.nb i b (live' i hi).1
end

section
variable {P : Program} {Γ : Types} {o : Oper} {base : Nat} {st : St}
/-- A new builder. -/
theorem does_allocB (hΓ : TypesOk P Γ) {t : TypeId} {ti : TI} (ht : Γ.lookup t = some ti) (hz : ti.zero = [.nilp, .nil]) (hop : o.op = .alloc t) :
    Does P o base st ⟨.c (.box base 0), [], [(base, some [.selfp base t, .nil])], [base]⟩ := by
  refine does_runs fun B N nt C a w h hN => ?_
  obtain ⟨i, zv, d, hi, hs, _, hzz, hu, hzc, _, _, hone⟩ := TIok.facts (hΓ.ok t ti ht)
  rw [hz] at hzc
  obtain ⟨f1, f2, f3⟩ := zcells_sound (w := w) (ok := okOf B st C w) (C := C) (own := st.own) hzc
  have hsz2 : zv.cells.size = 2 := by simpa using f1
  have hA := after_new_box (et := t) (arr := zv.cells) (cs := [.nilp, .nil]) h hN (by simpa using f1) (fun c hc => lies_at (by simp at hc; rcases hc with rfl | rfl <;> rfl)) (fun c hc r hr => by rw [f2 c hc] at hr; cases hr) (fun j c hj => by simpa using f3 j c hj)
  have hbx : (st.mem ⟨.c (.box base 0), [], [(base, some [.nilp, .nil])], [base]⟩).box base = some [.nilp, .nil] := upd_same _ _ _
  have hk : BoxOk { w with heap := w.heap.push (.cells zv.cells t) } (CRep { w with heap := w.heap.push (.cells zv.cells t) } (okOf B (st.mem ⟨.c (.box base 0), [], [(base, some [.nilp, .nil])], [base]⟩) (upd C base (some w.heap.size)) { w with heap := w.heap.push (.cells zv.cells t) }) (upd C base (some w.heap.size)) (st.mem ⟨.c (.box base 0), [], [(base, some [.nilp, .nil])], [base]⟩).own) (upd C base (some w.heap.size)) base [.selfp base t, .nil] := by
    refine ⟨w.heap.size, .cells zv.cells t, zv.cells, upd_same _ _ _, by simp, .inl ⟨t, rfl⟩, .inl ⟨_, t, rfl, fun c hc => ?_⟩, hsz2, fun j c hj => ?_⟩
    · simp at hc
      rcases hc with rfl | rfl
      · rfl
      · rfl
    · match j, hj with
      | 0, hj =>
        simp at hj; subst hj
        obtain ⟨u, h1, h2⟩ := f3 0 .nilp rfl
        exact ⟨u, by simpa using h1, .inl h2⟩
      | 1, hj =>
        simp at hj; subst hj
        obtain ⟨u, h1, h2⟩ := f3 1 .nil rfl
        exact ⟨u, by simpa using h1, h2⟩
  have hmm := mm_box hA.mm hbx hk
  have hst : ({ st.mem ⟨.c (.box base 0), [], [(base, some [.nilp, .nil])], [base]⟩ with box := upd (st.mem ⟨.c (.box base 0), [], [(base, some [.nilp, .nil])], [base]⟩).box base (some [.selfp base t, .nil]) } : St) = st.mem ⟨.c (.box base 0), [], [(base, some [.selfp base t, .nil])], [base]⟩ := by
    show ({ st with box := upd (upd st.box base _) base _ } : St) = { st with box := upd st.box base _ }
    rw [upd_upd]
  have hok := okOf_same (B := B) (C := upd C base (some w.heap.size)) (w := { w with heap := w.heap.push (.cells zv.cells t) }) (cs' := [.selfp base t, .nil]) hbx
  rw [hst] at hmm hok
  refine ⟨.pointer (some ⟨w.heap.size, 0, none⟩), _, _, ?_, ⟨hmm, fun c u hr hc => ?_, ⟨w.heap.size, upd_same _ _ _, rfl⟩, ?_, fun r hr hn => ?_, hA.sub⟩⟩
  · rw [hop]
    refine runs_value fun o' ho => ?_
    simp [execOp, ho, Instr.alloc, zeroValue, typeInfo, hi, hzz, newVar, newRow]
  · rw [hok]; exact hA.keep c u hr hc
  · refine ⟨fun id hi => hA.res.own id hi, fun id hi => ?_, fun id hi => hA.res.t id hi, fun id hi j cs' c hj hc hrf => ?_⟩
    · show upd st.box base _ id = none
      rw [upd_ne _ _ (less_ne hi)]; exact h.res.box id hi.1
    · have hj' : upd st.box base (some [.selfp base t, .nil]) j = some cs' := hj
      by_cases hjb : j = base
      · subst hjb
        rw [upd_same] at hj'
        injection hj' with hj'; subst hj'
        simp at hc
        rcases hc with rfl | rfl
        · simp [Cell.refs] at hrf; exact less_ne hi hrf
        · cases hrf
      · rw [upd_ne _ _ hjb] at hj'
        exact h.res.cell id hi.1 j cs' c hj' hc hrf
  · simp [TV.refs, T1.refs, Cell.refs] at hr; subst hr; exact less_ne hn rfl
end

/-! ### A string behind bytes of one's own -/
def bytesL (s : List UInt8) : List (List D) := (bytesD s).map (encI .u8)
theorem bytesL_length (s : List UInt8) : (bytesL s).length = s.length := by simp [bytesL, bytesD]
theorem bytesL_sz (s : List UInt8) : ∀ cs ∈ bytesL s, cs.length = 1 := fun cs hcs => by
  obtain ⟨n, _, rfl⟩ := List.mem_map.1 hcs; rfl
theorem strCells_rep {w : World} {ok : Nat → Prop} (s : List UInt8) : ∀ (i j : Nat) (cs : List D) (x : D), (bytesL s)[i]? = some cs → cs[j]? = some x →
    ∃ u, (Lib.strCells ⟨s.toArray⟩)[i * 1 + j]? = some u ∧ DRep w ok x u := by
  intro i j cs x hi hj
  unfold bytesL bytesD at hi
  rw [List.map_map, List.getElem?_map, Option.map_eq_some_iff] at hi
  obtain ⟨c, hc, rfl⟩ := hi
  cases j with
  | succ j => simp [encI] at hj
  | zero =>
    simp [encI] at hj; subst hj
    exact ⟨.int .u8 c.toNat, by simp [Lib.strCells, hc], .int .u8 _⟩
section
variable {P : Program} {Γ : Types} {B : Base} {N : Nat → Prop} {nt : Nat} {C : Nat → Option Nat} {st : St} {a : Act} {w : World}
theorem run_append_none_empty {t u e ty : TypeId} {i : TypeInfo} (ht : P.underlying t = some (.slice e)) (hu : P.underlying u = some .string) (hi : P.info? e = some i) :
    (Builtin.append_ #[t, u] ty #[.slice none 0 0, .string ⟨#[]⟩]).run P w = .ok (.slice none 0 0) w := by
  have hs : (ByteArray.mk #[]).size = 0 := rfl
  simp [Builtin.append_, run_underlying ht, run_underlying hu, sizeOf, typeInfo, hi, Builtin.lenOf, hs, Builtin.firstCells, storeCells]
theorem appendS_nil (h : Inv B N nt C st a w) {base : Nat} (hN : ∀ j, j < 1000 → N (base + j)) {t u et : TypeId} {te : TI} {ei : TypeInfo} {ez : Value} (hE : ElemOk P Γ t et te ei ez) (h1 : te.sz = 1) (hus : P.underlying u = some .string)
    (s : List UInt8) {us : List Nat} (hlim : s.length ≤ LIM) :
    ∃ v w' C', (∀ ty, (Builtin.append_ #[t, u] ty #[.slice none 0 0, .string ⟨s.toArray⟩]).run P w = .ok v w') ∧ After B N (Less N base) C st w ⟨.c (.own base none), [(base, some ⟨et, te.sz, bytesL s⟩)], [], us⟩ v C' w' := by
  by_cases hx0 : s = []
  · subst hx0
    obtain ⟨m1, m2⟩ := h.toMm.new_nil (e := ⟨et, te.sz, []⟩) h.res h.ancN (hN 0 (by omega)) hE.pos rfl
    exact ⟨_, w, _, fun ty => run_append_none_empty hE.hu hus hE.hei, ⟨m2, m1.keep, .inl ⟨upd_same _ _ _, rfl, fun e he => by
      have he2 : upd st.own base _ base = some e := he
      rw [upd_same] at he2; injection he2 with he2; subst he2; rfl⟩, res_new_own h.res, own_vres, fun _ hi => hi.1⟩⟩
  · have hlen : 0 < s.length := List.length_pos_iff.2 hx0
    have hss : (ByteArray.mk s.toArray).size = s.length := by simp [ByteArray.size]
    simp only [LIM] at hlim
    have hb : s.length * ei.bytes ≤ 281474976710656 := by rw [hE.heb]; exact Nat.le_trans (Nat.mul_le_mul hlim hE.small) (by omega)
    have hrun := fun ty => run_append_nil_string (P := P) w t u ty et ei ez hE.hu hus hE.hei hE.hez ⟨s.toArray⟩ (by rw [hss]; exact hlen) (by rw [hss]; omega) (by rw [hss]; exact hb)
    simp only [hss] at hrun
    have hge := grownCap_ge w s.length 0 et
    have hcm := grownCap_le_maxLen w s.length 0 et (by simp [maxLen]; omega)
    have hbl := bytesL_length s
    have hA := after_new_own (e := ⟨et, te.sz, bytesL s⟩) (us := us) (c := grownCap w s.length 0 et) h hN (w' := w.drew.alloc (.cells ((ByteArray.mk s.toArray).data.map (fun b => Value.int .u8 b.toNat) ++ Builtin.zeroCells ez.cells (grownCap w s.length 0 et - s.length)) et)) ⟨rfl, rfl, rfl, rfl⟩ hE.pos
      (by simp only [Array.size_append, Array.size_map, List.size_toArray, size_zeroCells, hE.hzs, h1]; omega) (by rw [hbl]; exact hge) (by simpa [maxLen] using hcm) (by rw [h1]; exact bytesL_sz s) (fun i j cs x hi hj => by
        obtain ⟨v, hv, hd⟩ := strCells_rep (w := w) (ok := okOf B st C w) s i j cs x hi hj
        refine ⟨v, ?_, hd⟩
        have hlt := (List.getElem?_eq_some_iff.1 hv).1
        show _ = some v
        rw [h1, Array.getElem?_append_left (by simpa [Lib.strCells] using hlt)]
        simpa [Lib.strCells] using hv)
    rw [show (⟨et, te.sz, bytesL s⟩ : OwnB).xs.length = s.length from hbl] at hA
    exact ⟨_, _, _, hrun, hA⟩

theorem appendS_own (h : Inv B N nt C st a w) {base : Nat} (hN : ∀ j, j < 1000 → N (base + j)) {t u oet : TypeId} {te : TI} {ei : TypeInfo} {ez : Value} (hE : ElemOk P Γ t oet te ei ez) (h1 : te.sz = 1) (hus : P.underlying u = some .string)
    {id b c : Nat} {oxs : List (List D)} (s : List UInt8) {us : List Nat}
    {arr : Array Value} (ho : st.own id = some ⟨oet, te.sz, oxs⟩) (hlim : oxs.length + s.length ≤ LIM) (hb : C id = some b) (hnc : oxs.length ≤ c) (hc63 : c ≤ 9223372036854775807)
    (hh : w.heap[b]? = some (.cells arr oet (0, 0))) (has : arr.size = c * te.sz) :
    ∃ v w' C', (∀ ty, (Builtin.append_ #[t, u] ty #[.slice (some ⟨b, 0, none⟩) oxs.length c, .string ⟨s.toArray⟩]).run P w = .ok v w') ∧ After B N (Less N base) C st w ⟨.c (.own base none), [(id, none), (base, some ⟨oet, te.sz, oxs ++ bytesL s⟩)], [], base :: id :: us⟩ v C' w' := by
  have hu := hE.hu
  have hei := hE.hei
  have hes := hE.hes
  have heb := hE.heb
  have hez := hE.hez
  have hzs := hE.hzs
  have hc1 := hE.pos
  have hc2 := hE.small
  obtain ⟨d1, d2⟩ := inv_drop h id
  obtain ⟨_, arr', hh', hle, hls, hcell⟩ := own_block h ho hb
  rw [hh] at hh'; injection hh' with hh'; injection hh' with hh' _ _; subst hh'
  simp only at hle hls hcell has hh
  have hss : (ByteArray.mk s.toArray).size = s.length := by simp [ByteArray.size]
  have hbl := bytesL_length s
  have hsz : ∀ cs ∈ bytesL s, cs.length = te.sz := by rw [h1]; exact bytesL_sz s
  have hcell' : ∀ (i j : Nat) (cs : List D) (x : D), oxs[i]? = some cs → cs[j]? = some x → ∃ u, (arr.toList.take (oxs.length * te.sz))[i * te.sz + j]? = some u ∧ DRep w (okOf B st C w) x u := by
    intro i j cs x hi hj
    obtain ⟨u, hu, hr⟩ := hcell i j cs x hi hj
    refine ⟨u, ?_, hr⟩
    have hjl : j < te.sz := by rw [← hls cs (List.mem_of_getElem? hi)]; exact (List.getElem?_eq_some_iff.1 hj).1
    have hil : i < oxs.length := (List.getElem?_eq_some_iff.1 hi).1
    have : (i + 1) * te.sz ≤ oxs.length * te.sz := Nat.mul_le_mul_right _ hil
    rw [Nat.add_mul, Nat.one_mul] at this
    rw [List.getElem?_take, if_pos (by omega)]
    simpa using hu
  have htl : (arr.toList.take (oxs.length * te.sz)).length = oxs.length * te.sz := by simp; omega
  have n1 : (Lib.strCells ⟨s.toArray⟩).length = (bytesL s).length * te.sz := by rw [Lib.strCells_length, hss, hbl, h1, Nat.mul_one]
  have n4 : ∀ (i j : Nat) (cs : List D) (x : D), (bytesL s)[i]? = some cs → cs[j]? = some x → ∃ u, (Lib.strCells ⟨s.toArray⟩)[i * te.sz + j]? = some u ∧ DRep w (okOf B st C w) x u := by rw [h1]; exact strCells_rep s
  have hcs2 : ∀ cs ∈ oxs ++ bytesL s, cs.length = te.sz := by
    intro cs hcs
    rcases List.mem_append.1 hcs with hcs | hcs
    · exact hls cs hcs
    · exact hsz cs hcs
  simp only [LIM] at hlim
  by_cases hroom : oxs.length + s.length ≤ c
  · have hfit : oxs.length + s.length ≤ arr.size := by rw [has, h1]; omega
    have hrun := fun ty => Lib.run_append_room_string (P := P) w t u ty oet ei hu hus hei (hes.trans h1) b oxs.length c arr hh ⟨s.toArray⟩ (by rw [hss]; exact hroom) (by rw [hss]; exact hfit)
    simp only [hss] at hrun
    obtain ⟨A, hA⟩ : ∃ A, A = (arr.toList.take oxs.length ++ Lib.strCells ⟨s.toArray⟩ ++ arr.toList.drop (oxs.length + s.length)).toArray := ⟨_, rfl⟩
    simp only [← hA] at hrun
    have hAs : A.size = c * te.sz := by rw [hA]; simp [Lib.strCells_length, hss]; omega
    have hlc : (oxs ++ bytesL s).length * te.sz ≤ A.size := by rw [hAs]; exact Nat.mul_le_mul_right _ (by simpa [hbl] using hroom)
    have hd : ∀ (i j : Nat) (cs : List D) (x : D), (oxs ++ bytesL s)[i]? = some cs → cs[j]? = some x → ∃ u, A[i * te.sz + j]? = some u ∧ DRep w (okOf B st C w) x u := by
      intro i j cs x hi hj
      have := concat_rep (arr.toList.drop (oxs.length + s.length)) htl hls hsz n1 hcell' n4 i j cs x hi hj
      rw [hA, List.getElem?_toArray]
      rw [h1, Nat.mul_one] at this
      rw [h1]
      exact this
    obtain ⟨m1, m2⟩ := h.toMm.move_own (e2 := ⟨oet, te.sz, oxs ++ bytesL s⟩) h.res h.ancN ho (hN 0 (by omega)) hb hh (put1_setRow (cs := A) hh) hc1 rfl (hAs.trans has.symm) hlc hcs2 hd
    refine ⟨_, _, upd C base (some b), hrun, m2, m1.keep, .inr ⟨b, _, c, upd_same _ _ _, rfl, hroom, hc63, fun e he => ?_⟩, ?_, own_vres, fun _ hi => hi.1⟩
    · have he2 : upd (upd st.own id none) base (some ⟨oet, te.sz, oxs ++ bytesL s⟩) base = some e := he
      rw [upd_same] at he2; injection he2 with he2; subst he2
      exact ⟨by simp [hbl], by simp [hbl], A, (put1_setRow (cs := A) hh).at_, hAs⟩
    · refine ⟨fun j hj => ?_, fun j hj => h.res.box j hj.1, fun j hj => h.res.t j hj.1, fun j hj => h.res.cell j hj.1⟩
      show upd (upd st.own id none) base _ j = none
      rw [upd_ne _ _ (less_ne hj)]
      by_cases hji : j = id
      · subst hji; exact upd_same _ _ _
      · rw [upd_ne _ _ hji]; exact h.res.own j hj.1
  · have holds : ∀ j v, (arr.toList.take (oxs.length * te.sz))[j]? = some v → w.cell? ((⟨b, 0, none⟩ : Addr).add j) = some v := by
      intro j v hj
      rw [List.getElem?_take] at hj
      split at hj
      · rw [add_off]; simp [World.cell?, hh]; simpa using hj
      · cases hj
    have hb47 : (oxs.length + s.length) * ei.bytes ≤ 140737488355328 := by rw [heb]; exact Nat.le_trans (Nat.mul_le_mul hlim hc2) (by omega)
    have hrun := fun ty => Lib.run_append_grow_string (P := P) w t u ty oet ei ez hu hus hei hez ⟨b, 0, none⟩ oxs.length c (arr.toList.take (oxs.length * te.sz)) (by rw [hes]; exact htl) holds ⟨s.toArray⟩ (by rw [hss]; omega) (by rw [hss]; omega) (by rw [hss]; exact growslice_fits (by omega) hb47)
    simp only [hss] at hrun
    have hge := grownCap_ge w (oxs.length + s.length) c oet
    have hcm := grownCap_le_maxLen w (oxs.length + s.length) c oet (by simp [maxLen]; omega)
    refine ⟨_, _, upd C base (some w.heap.size), hrun, after_drop d1 (us := us) ?_⟩
    have hl2 : (oxs ++ bytesL s).length = oxs.length + s.length := by simp [hbl]
    rw [← hl2]
    refine after_new_own (e := ⟨oet, te.sz, oxs ++ bytesL s⟩) (c := grownCap w (oxs ++ bytesL s).length c oet) d2 hN ⟨rfl, rfl, rfl, rfl⟩ hc1 ?_ (by rw [hl2]; exact hge) (by rw [hl2]; simpa [maxLen] using hcm) hcs2 ?_
    · simp only [Array.size_append, List.size_toArray, size_zeroCells, hzs, htl, n1, hl2, hbl, ← Nat.add_mul]
      congr 1
      omega
    · intro i j cs x hi hj
      obtain ⟨u, hu, hr⟩ := concat_rep (Builtin.zeroCells ez.cells (grownCap w (oxs ++ bytesL s).length c oet - (oxs ++ bytesL s).length)).toList htl hls hsz n1 hcell' n4 i j cs x hi hj
      refine ⟨u, ?_, hr.mono (fun _ _ => rfl) d1.hok⟩
      rw [← Array.getElem?_toList]
      simpa using hu
end
section
variable {P : Program} {Γ : Types} {o : Oper} {base : Nat} {st : St}
theorem does_appS (hΓ : TypesOk P Γ) {t u et : TypeId} {ti te tu : TI} {x y : Operand} {id : Nat} {oe : OwnB} {s : List UInt8} (ht : Γ.lookup t = some ti) (hk : ti.kind = .slice et) (hte : Γ.lookup et = some te) (hsz1 : te.sz = 1) (hsm : te.bytes ≤ 1024)
    (hu : Γ.lookup u = some tu) (hku : tu.kind = .str) (hx : st.ev x = some (.c (.own id none))) (hy : st.ev y = some (.c (.d (.str s)))) (ho : st.own id = some oe) (hoe : oe.et = et) (hes0 : oe.sz = te.sz) (hlim : oe.xs.length + s.length ≤ LIM)
    (hop : o.op = .call ⟨.builtin .append, ⟨[x, y]⟩, ⟨[t, u]⟩⟩) :
    Does P o base st ⟨.c (.own base none), [(id, none), (base, some ⟨et, te.sz, oe.xs ++ bytesL s⟩)], [], [base, id]⟩ := by
  obtain ⟨oet, osz, oxs⟩ := oe
  simp only at hoe hes0 hlim ⊢
  subst hoe hes0
  refine does_runs fun B N nt C a w h hN => ?_
  obtain ⟨_, _, d, _, _, _, _, hu1, _, hkd, _⟩ := TIok.facts (hΓ.ok t ti ht)
  obtain ⟨_, _, d2, _, _, _, _, hu2, _, hkd2, _⟩ := TIok.facts (hΓ.ok u tu hu)
  obtain ⟨ei, ez, _, hei, hes, heb, hez, _, hzc, _, _, _, hzl⟩ := TIok.facts (hΓ.ok oet _ hte)
  rw [hk] at hkd
  rw [kind_slice hkd] at hu1
  rw [hku] at hkd2
  rw [kind_str hkd2] at hu2
  have hzs : ez.cells.size = te.sz := by
    have := (zcells_sound (w := w) (ok := okOf B st C w) (C := C) (own := st.own) hzc).1
    rw [hzl] at this; simpa using this
  have hE : ElemOk P Γ t oet te ei ez := ⟨hu1, hei, hes, heb, hez, hzs, by omega, hsm⟩
  have ex := (ev_sound h hx).1
  have ey : a.eval y = .string ⟨s.toArray⟩ := rep_str (ev_sound h hy).1
  have run : ∀ v w', (∀ ty, (Builtin.append_ #[t, u] ty #[a.eval x, a.eval y]).run P w = .ok v w') → Runs P o.op a w v w' := fun v w' hr => by
    rw [hop]
    exact builtin_runs _ _ (fun ty => Builtin.append_ #[t, u] ty #[a.eval x, a.eval y]) (fun _ _ => rfl) hr
  rcases ex with ⟨g1, g2, g3⟩ | ⟨b, n, c, hb, hv, hnc, hc63, h4⟩
  · have hx0 : oxs = [] := List.eq_nil_of_length_eq_zero (g3 _ ho)
    subst hx0
    obtain ⟨d1, d2⟩ := inv_drop h id
    obtain ⟨v, w', C', r1, r2⟩ := appendS_nil (us := [base, id]) d2 hN hE hsz1 hu2 s (by simpa using hlim)
    refine ⟨v, w', C', run _ _ fun ty => ?_, after_drop d1 r2⟩
    rw [g2, ey]; exact r1 ty
  · obtain ⟨h5, h6, arr, hh, has⟩ := h4 _ ho
    have h5' : n = oxs.length := h5
    subst h5'
    obtain ⟨v, w', C', r1, r2⟩ := appendS_own (us := []) h hN hE hsz1 hu2 s ho hlim hb hnc hc63 hh has
    refine ⟨v, w', C', run _ _ fun ty => ?_, r2⟩
    rw [hv, ey]; exact r1 ty
theorem does_appS0 (hΓ : TypesOk P Γ) {t u et : TypeId} {ti te tu : TI} {x y : Operand} {s : List UInt8} (ht : Γ.lookup t = some ti) (hk : ti.kind = .slice et) (hte : Γ.lookup et = some te) (hsz1 : te.sz = 1) (hsm : te.bytes ≤ 1024)
    (hu : Γ.lookup u = some tu) (hku : tu.kind = .str) (hx : st.ev x = some (.c .nil)) (hy : st.ev y = some (.c (.d (.str s)))) (hlim : s.length ≤ LIM)
    (hop : o.op = .call ⟨.builtin .append, ⟨[x, y]⟩, ⟨[t, u]⟩⟩) :
    Does P o base st ⟨.c (.own base none), [(base, some ⟨et, te.sz, bytesL s⟩)], [], [base]⟩ := by
  refine does_runs fun B N nt C a w h hN => ?_
  obtain ⟨_, _, d, _, _, _, _, hu1, _, hkd, _⟩ := TIok.facts (hΓ.ok t ti ht)
  obtain ⟨_, _, d2, _, _, _, _, hu2, _, hkd2, _⟩ := TIok.facts (hΓ.ok u tu hu)
  obtain ⟨ei, ez, _, hei, hes, heb, hez, _, hzc, _, _, _, hzl⟩ := TIok.facts (hΓ.ok et _ hte)
  rw [hk] at hkd
  rw [kind_slice hkd] at hu1
  rw [hku] at hkd2
  rw [kind_str hkd2] at hu2
  have hzs : ez.cells.size = te.sz := by
    have := (zcells_sound (w := w) (ok := okOf B st C w) (C := C) (own := st.own) hzc).1
    rw [hzl] at this; simpa using this
  have hE : ElemOk P Γ t et te ei ez := ⟨hu1, hei, hes, heb, hez, hzs, by omega, hsm⟩
  have ex : a.eval x = .slice none 0 0 := (ev_sound h hx).1
  have ey : a.eval y = .string ⟨s.toArray⟩ := rep_str (ev_sound h hy).1
  obtain ⟨v, w', C', r1, r2⟩ := appendS_nil (us := [base]) h hN hE hsz1 hu2 s hlim
  refine ⟨v, w', C', ?_, r2⟩
  rw [hop]
  refine builtin_runs _ _ (fun ty => Builtin.append_ #[t, u] ty #[a.eval x, a.eval y]) (fun _ _ => rfl) fun ty => ?_
  rw [ex, ey]; exact r1 ty
end

/-! ### The rules of a walk -/
section
variable {P : Program} {Γ : Types} {A nt : Nat} {ops : Array Oper} {base k : Nat} {o : Oper} {l : List Oper} {K : St → Prop} {st : St}
def blB (Γ : Types) (t : TypeId) : Bool := match Γ.lookup t with
  | some ⟨_, _, [.nilp, .nil], _, _⟩ => true
  | _ => false
/-- A new builder. -/
theorem aBl [hΓ : TOk P Γ] {t : TypeId} (ho : o.op = .alloc t)
    (hn : Aops P nt ops base (k + 1) l K (st.app o.dst ⟨.c (.box (base + 1000 * k) 0), [], [(base + 1000 * k, some [.selfp (base + 1000 * k) t, .nil])], []⟩))
    (hc : blB Γ t = true := by kernel_rfl) (hg : (dstOk nt o.dst && guardT ops o st) = true := by kernel_rfl) : Aops P nt ops base k (o :: l) K st := by
  unfold blB at hc
  split at hc
  · rename_i h1
    exact aDo (does_allocB hΓ.ok h1 rfl ho) hn hg
  · cases hc
def u8T (Γ : Types) (t : TypeId) : Bool := match Γ.lookup t with
  | some ⟨_, _, _, _, .slice et⟩ => match Γ.lookup et with
    | some te => Nat.beq te.sz 1 && Nat.ble te.bytes 1024
    | none => false
  | _ => false
theorem u8T_spec {t : TypeId} (h : u8T Γ t = true) : ∃ ti et te, Γ.lookup t = some ti ∧ ti.kind = .slice et ∧ Γ.lookup et = some te ∧ te.sz = 1 ∧ te.bytes ≤ 1024 ∧ slE Γ t = et ∧ (slT Γ t).sz = 1 := by
  unfold u8T at h
  split at h
  · rename_i h1
    split at h
    · rename_i te h2
      rw [Bool.and_eq_true] at h
      have e1 := Nat.eq_of_beq_eq_true h.1
      refine ⟨_, _, te, h1, rfl, h2, e1, Nat.le_of_ble_eq_true h.2, ?_, ?_⟩
      · simp [slE, h1]
      · simp [slT, slE, h1, h2, e1]
    · cases h
  · cases h
/-- A string behind bytes of one's own. -/
theorem aApS [hΓ : TOk P Γ] (id : Nat) {t u : TypeId} {x y : Operand} {xs : List Int} {s : List UInt8} (h : Nat.ble (xs.length + s.length) LIM = true) (ho : o.op = .call ⟨.builtin .append, ⟨[x, y]⟩, ⟨[t, u]⟩⟩)
    (hn : Aops P nt ops base (k + 1) l K (st.app o.dst ⟨.c (.own (base + 1000 * k) none), [(id, none), (base + 1000 * k, some ⟨slE Γ t, 1, (xs ++ bytesD s).map (encI .u8)⟩)], [], []⟩))
    (hc : (u8T Γ t && strB Γ u, evO st x, evS st y) = (true, some (id, ⟨slE Γ t, 1, xs.map (encI .u8)⟩), some s) := by kernel_rfl) (hg : (dstOk nt o.dst && guardT ops o st) = true := by kernel_rfl) : Aops P nt ops base k (o :: l) K st := by
  injection hc with h1 hc; injection hc with h2 h3
  rw [Bool.and_eq_true] at h1
  obtain ⟨ti, et, te, a1, a2, a3, a4, a5, a6, a7⟩ := u8T_spec h1.1
  obtain ⟨td, b1, b2⟩ := strB_spec h1.2
  obtain ⟨c1, c2⟩ := evO_spec h2
  have hd := does_appS (o := o) (base := base + 1000 * k) hΓ.ok a1 a2 a3 a4 a5 b1 b2 c1 (evS_spec h3) c2 a6 a4.symm (by rw [List.length_map]; exact Nat.le_of_ble_eq_true h) ho
  rw [a4, ← a6, show (⟨slE Γ t, 1, xs.map (encI .u8)⟩ : OwnB).xs ++ bytesL s = (xs ++ bytesD s).map (encI .u8) by simp [bytesL]] at hd
  exact aDo hd hn hg
/-- A string as bytes of one's own. -/
theorem aApS0 [hΓ : TOk P Γ] {t u : TypeId} {x y : Operand} {s : List UInt8} (h : Nat.ble s.length LIM = true) (ho : o.op = .call ⟨.builtin .append, ⟨[x, y]⟩, ⟨[t, u]⟩⟩)
    (hn : Aops P nt ops base (k + 1) l K (st.app o.dst ⟨.c (.own (base + 1000 * k) none), [(base + 1000 * k, some ⟨slE Γ t, 1, (bytesD s).map (encI .u8)⟩)], [], []⟩))
    (hc : (u8T Γ t && strB Γ u, isNil st x, evS st y) = (true, true, some s) := by kernel_rfl) (hg : (dstOk nt o.dst && guardT ops o st) = true := by kernel_rfl) : Aops P nt ops base k (o :: l) K st := by
  injection hc with h1 hc; injection hc with h2 h3
  rw [Bool.and_eq_true] at h1
  obtain ⟨ti, et, te, a1, a2, a3, a4, a5, a6, a7⟩ := u8T_spec h1.1
  obtain ⟨td, b1, b2⟩ := strB_spec h1.2
  have hd := does_appS0 (o := o) (base := base + 1000 * k) hΓ.ok a1 a2 a3 a4 a5 b1 b2 (isNil_spec h2) (evS_spec h3) (Nat.le_of_ble_eq_true h) ho
  rw [a4, ← a6] at hd
  exact aDo hd hn hg
end

/-! ### A builder's own functions -/
theorem res0 {st : St} : Res (fun _ => False) st := ⟨fun _ h => h.elim, fun _ h => h.elim, fun _ h => h.elim, fun _ h => h.elim⟩
theorem upd_look {α : Type} {m : Nat → Option α} {k : Nat} {v : Option α} (h : m k = v) : upd m k v = m := by
  funext x; unfold upd; split
  · rename_i e; rw [e, h]
  · rfl
theorem bytes_back {l : List Int} (h : (l.all fun n => decide (0 ≤ n) && decide (n < 256)) = true) : bytesD (l.map fun n => UInt8.ofNat n.toNat) = l := by
  unfold bytesD
  rw [List.map_map]
  conv => rhs; rw [← List.map_id l]
  apply List.map_congr_left
  intro n hn
  have := List.all_eq_true.1 h n hn
  simp only [Bool.and_eq_true, decide_eq_true_eq] at this
  simp only [Function.comp_apply, id_eq, UInt8.toNat_ofNat']
  have h1 : n.toNat < 256 := by omega
  rw [Nat.mod_eq_of_lt h1]
  omega
/-- A builder's look at itself: it is itself, or will be. -/
theorem holds_copy {P : Program} {f : FuncId} {T : TypeId} (hE : Enters P f)
    (hU : ∀ (b : Nat) (w : World), w.cell? ⟨b, 0, none⟩ = some (.pointer (some ⟨b, 0, none⟩)) → Calls P f #[.pointer (some ⟨b, 0, none⟩)] w fun e w' => e = .returned (.tuple #[]) ∧ w' = w)
    (hF : ∀ (b : Nat) (w : World), w.cell? ⟨b, 0, none⟩ = some (.pointer none) → w.shape? b = some (T, 2) → w.frozen? ⟨b, 0, none⟩ = false →
      Calls P f #[.pointer (some ⟨b, 0, none⟩)] w fun e w' => e = .returned (.tuple #[]) ∧ w' = w.setCell ⟨b, 0, none⟩ (.pointer (some ⟨b, 0, none⟩)))
    {m : Mem} {k : Nat} {c : Cell} (hb : m.box.lookup k = some [.selfp k T, c]) : Holds P f [TV.c (.box k 0)] m (fun t m' => t = .tup [] ∧ m' = m) := by
  refine ⟨hE, fun C w bad vs hm hs hv => ?_⟩
  obtain ⟨v, g1, b, g2, g3⟩ := hv 0 _ rfl
  have e : vs = #[.pointer (some ⟨b, 0, none⟩)] := by
    apply Array.ext
    · simpa using hs
    · intro j h1 h2
      have hj : j = 0 := by simpa using h2
      subst hj
      rw [Array.getElem?_eq_getElem h1] at g1
      simp only [Option.some.injEq] at g1
      rw [g1, g3]
      rfl
  subst e
  have hb' : m.s.box k = some [.selfp k T, c] := hb
  obtain ⟨b', arr, et, h1, h2, h3, h4, h5⟩ := (hm.box k _ hb').cells rfl
  rw [g2] at h1; cases h1
  have hT : et = T := h4 (.selfp k T) (by simp)
  subst hT
  obtain ⟨v0, q1, q2⟩ := h5 0 _ rfl
  have h3' : arr.size = 2 := h3
  have hc0 : w.cell? ⟨b, 0, none⟩ = some v0 := by simp [World.cell?, h2, q1]
  rcases q2 with rfl | ⟨b2, q3, rfl⟩
  · refine (hF b w hc0 (by simp [World.shape?, h2, h3']) (by simp [World.frozen?, h2])).mono ?_
    rintro e w' ⟨rfl, rfl⟩
    have hlt : b < w.heap.size := (Array.getElem?_eq_some_iff.1 h2).1
    have hp : Put1 w b (.cells (arr.setIfInBounds 0 (.pointer (some ⟨b, 0, none⟩))) et (0, 0)) (w.setCell ⟨b, 0, none⟩ (.pointer (some ⟨b, 0, none⟩))) := by
      refine ⟨rfl, rfl, rfl, by simp [World.setCell], ?_, fun b' hb' => ?_⟩
      · have hv' : w.heap[b] = .cells arr et (0, 0) := (Array.getElem?_eq_some_iff.1 h2).2
        unfold World.setCell
        rw [Array.getElem?_eq_getElem (by simpa using hlt), Array.getElem_modify]
        simp [hv']
      · unfold World.setCell
        simp only [Array.getElem?_modify]
        rw [if_neg (fun e => hb' e.symm)]
    obtain ⟨m1, m2⟩ := hm.put_box (N := fun _ => False) res0 (fun _ _ h => h) hb' g2 h2 hp (by simp [h3']) (by simp) h4 (fun _ _ _ _ h => h) (fun j d hj => by
      match j, hj with
      | 0, hj =>
        simp at hj; subst hj
        exact ⟨.pointer (some ⟨b, 0, none⟩), by simp [h3'], .inr ⟨b, g2, rfl⟩⟩
      | 1, hj =>
        obtain ⟨u, u1, u2⟩ := h5 1 d hj
        exact ⟨u, by rw [Array.getElem?_setIfInBounds_ne (by omega)]; exact u1, u2⟩)
    rw [show ({ m.s with box := upd m.s.box k (some [.selfp k et, c]) } : St) = m.s by rw [upd_look hb']] at m2
    exact ⟨.tuple #[], .tup [], m, C, rfl, ⟨rfl, rfl⟩, m2, #[], rfl, rfl, fun j x hj => by simp at hj⟩
  · rw [g2] at q3; cases q3
    refine (hU b w hc0).mono ?_
    rintro e w' ⟨rfl, rfl⟩
    exact ⟨.tuple #[], .tup [], m, C, rfl, ⟨rfl, rfl⟩, hm, #[], rfl, rfl, fun j x hj => by simp at hj⟩

/-- Nothing is changed but the mark of one row, and what is new. -/
structure Loose (w w' : World) (g : Nat) : Prop where
  os : w'.os = w.os
  tape : w'.tape = w.tape
  output : w'.output = w.output
  size : w.heap.size ≤ w'.heap.size
  far : ∀ k, k < w.heap.size → k ≠ g → w'.heap[k]? = w.heap[k]?
  at_ : ∀ (arr : Array Value) (et : TypeId) (k0 : Nat × Nat), w.heap[g]? = some (.cells arr et k0) → ∃ fz, w'.heap[g]? = some (.cells arr et fz)
/-- What a builder hands out. -/
theorem holds_bstr {P : Program} {f : FuncId} {T et : TypeId} (hE : Enters P f)
    (h1 : ∀ (b : Nat) (p : Value) (w : World), w.heap[b]? = some (.cells #[p, .slice none 0 0] T (0, 0)) → Calls P f #[.pointer (some ⟨b, 0, none⟩)] w fun e w' => e = .returned (.string ⟨#[]⟩) ∧ Below w.heap.size w w')
    (h2 : ∀ (b g cap : Nat) (p : Value) (cur : Array Value) (l : List UInt8) (w : World), w.heap[b]? = some (.cells #[p, .slice (some ⟨g, 0, none⟩) l.length cap] T (0, 0)) → w.heap[g]? = some (.cells cur et (0, 0)) →
      l.length ≤ cap → cap ≤ 9223372036854775807 → cur.size = cap → (∀ (j : Nat) (c : UInt8), l[j]? = some c → cur[j]? = some (.int .u8 c.toNat)) →
      Calls P f #[.pointer (some ⟨b, 0, none⟩)] w fun e w' => e = .returned (.string ⟨l.toArray⟩) ∧ Loose w w' g)
    (s : List UInt8) {k j : Nat} : Holds P f [TV.c (.box k 0)] ⟨[(j, ⟨et, 1, (bytesD s).map (encI .u8)⟩)], [(k, [.selfp k T, .own j none])]⟩
      (fun t m' => t = .c (.d (.str s)) ∧ m' = ⟨[], [(k, [.selfp k T, .undef])]⟩) := by
  refine ⟨hE, fun C w bad vs hm hs hv => ?_⟩
  obtain ⟨v, g1, b, g2, g3⟩ := hv 0 _ rfl
  have e : vs = #[.pointer (some ⟨b, 0, none⟩)] := by
    apply Array.ext
    · simpa using hs
    · intro j h1 h2
      have hj : j = 0 := by simpa using h2
      subst hj
      rw [Array.getElem?_eq_getElem h1] at g1
      simp only [Option.some.injEq] at g1
      rw [g1, g3]
      rfl
  subst e
  obtain ⟨m, hmdef⟩ : ∃ m : Mem, m = ⟨[(j, ⟨et, 1, (bytesD s).map (encI .u8)⟩)], [(k, [.selfp k T, .own j none])]⟩ := ⟨_, rfl⟩
  rw [← hmdef] at hm hv ⊢
  have hb' : m.s.box k = some [.selfp k T, .own j none] := by rw [hmdef]; simp [Mem.s, Mem.st]
  have ho' : m.s.own j = some ⟨et, 1, (bytesD s).map (encI .u8)⟩ := by rw [hmdef]; simp [Mem.s, Mem.st]
  obtain ⟨b', arr, eT, p1, p2, p3, p4, p5⟩ := (hm.box k _ hb').cells rfl
  rw [g2] at p1; cases p1
  have hT : eT = T := p4 (.selfp k T) (by simp)
  subst hT
  obtain ⟨v0, q1, _⟩ := p5 0 _ rfl
  obtain ⟨v1, q2, q3⟩ := p5 1 _ rfl
  have p3' : arr.size = 2 := p3
  have harr : arr = #[v0, v1] := by
    apply Array.ext
    · exact p3'
    · intro i h1 h2
      rcases i with _ | _ | i
      · rw [Array.getElem?_eq_getElem h1] at q1; simpa using q1
      · rw [Array.getElem?_eq_getElem h1] at q2; simpa using q2
      · simp at h2; omega
  subst harr
  have hl : (bytesD s).length = s.length := by simp [bytesD]
  have fin : ∀ w', Mm (m.base w C bad) C { m.s with own := upd m.s.own j none } w' → ∃ v tv m' C', Ending.returned (.string ⟨s.toArray⟩) = Ending.returned v ∧ (tv = .c (.d (.str s)) ∧ m' = (⟨[], [(k, [.selfp k eT, .undef])]⟩ : Mem)) ∧
      Mm (m.base w C bad) C' m'.s w' ∧ TRep (m'.rep (m.base w C bad) C' w') tv v := by
    intro w' hmm
    refine ⟨_, _, _, C, rfl, ⟨rfl, rfl⟩, ?_, .str s⟩
    have hb2 : ({ m.s with own := upd m.s.own j none } : St).box k = some [.selfp k eT, .own j none] := hb'
    obtain ⟨b3, o3, arr3, r1, r2, r3, r4, r5, r6⟩ := hmm.box k _ hb2
    have hbx := mm_box (cs' := [.selfp k eT, .undef]) hmm hb2 ⟨b3, o3, arr3, r1, r2, r3, ?_, r5, fun i c hi => ?_⟩
    · have hst : ({ ({ m.s with own := upd m.s.own j none } : St) with box := upd m.s.box k (some [.selfp k eT, .undef]) } : St) = (⟨[], [(k, [.selfp k eT, .undef])]⟩ : Mem).s := by
        rw [hmdef]
        simp only [Mem.s, Mem.st]
        congr 1
        · funext x
          unfold upd
          split
          · rfl
          · rename_i hx
            have hx' : (x == j) = false := by simpa using hx
            simp [List.lookup_cons, hx']
        · funext x
          unfold upd
          split
          · rename_i hx; subst hx; simp
          · rename_i hx
            have hx' : (x == k) = false := by simpa using hx
            simp [List.lookup_cons, hx']
      rw [← hst]
      exact hbx
    · rcases r4 with ⟨a4, e4, r4, r7⟩ | ⟨_, c4, r4, _⟩
      · refine .inl ⟨a4, e4, r4, fun c hc => ?_⟩
        simp at hc
        rcases hc with rfl | rfl
        · exact r7 _ (by simp)
        · rfl
      · simp at r4
    · match i, hi with
      | 0, hi => exact r6 0 c hi
      | 1, hi =>
        simp at hi; subst hi
        obtain ⟨u, u1, _⟩ := r6 1 _ rfl
        exact ⟨u, u1, trivial⟩
  rcases q3 with ⟨c1, rfl, c3⟩ | ⟨g, n, c, c1, rfl, c3, c4, c5⟩
  · have hs0 : s = [] := by
      have := c3 _ ho'
      simp [bytesD] at this
      exact this
    subst hs0
    refine (h1 b v0 w p2).mono ?_
    rintro e w' ⟨rfl, hbl⟩
    exact fin w' ((hm.grow hbl).drop (id := j) (N := fun _ => False) res0 (fun _ _ h => h)).2
  · obtain ⟨d1, d2, row, d3, d4⟩ := c5 _ ho'
    have hn : n = s.length := by rw [d1]; simp [bytesD]
    subst hn
    obtain ⟨_, od⟩ := hm.own j _ ho'
    rcases od with ⟨o1, _⟩ | ⟨g', row', o1, o2, o3, o4, o5⟩
    · rw [c1] at o1; cases o1
    · rw [c1] at o1; cases o1
      rw [d3] at o2; cases o2
      have d4' : row.size = c := by simpa using d4
      refine (h2 b g c v0 row s w p2 d3 c3 c4 d4' fun i x hi => ?_).mono ?_
      · obtain ⟨u, u1, u2⟩ := o5 i 0 [.int .u8 x.toNat] (.int .u8 x.toNat) (by simp [bytesD, hi, encI]) rfl
        cases u2
        simpa using u1
      · rintro e w' ⟨rfl, hw⟩
        refine fin w' (hm.loose ho' c1 d3 ?_ hw.far hw.size hw.os hw.tape hw.output)
        obtain ⟨fz, hfz⟩ := hw.at_ row et (0, 0) d3
        exact ⟨row, fz, hfz, rfl⟩
end Go.Eng
