/-
Each operation of the model does what the reckoned effect says: literals of structs and slices.
-/
import Derived.Test.YtnnadlpfbfajdaaGreatDoorEngJ
namespace Go.Eng
open Go
set_option linter.unusedVariables false
set_option linter.unusedSimpArgs false

section
variable {P : Program} {Γ : Types} {B : Base} {N : Nat → Prop} {nt : Nat} {C : Nat → Option Nat} {st : St} {a : Act} {w : World}

def CsRep (R : Cell → Value → Prop) (cs : List Cell) (vs : List Value) : Prop :=
  vs.length = cs.length ∧ ∀ (j : Nat) (c : Cell), cs[j]? = some c → ∃ u, vs[j]? = some u ∧ R c u
theorem CsRep.append {R : Cell → Value → Prop} {cs cs' : List Cell} {vs vs' : List Value} (h : CsRep R cs vs) (h' : CsRep R cs' vs') : CsRep R (cs ++ cs') (vs ++ vs') := by
  refine ⟨by simp [h.1, h'.1], fun j c hj => ?_⟩
  by_cases hl : j < cs.length
  · rw [List.getElem?_append_left hl] at hj
    rw [List.getElem?_append_left (by rw [h.1]; exact hl)]
    exact h.2 j c hj
  · rw [List.getElem?_append_right (by omega)] at hj
    rw [List.getElem?_append_right (by rw [h.1]; omega), h.1]
    exact h'.2 _ c hj
theorem CsRep.take {R : Cell → Value → Prop} {cs : List Cell} {vs : List Value} (h : CsRep R cs vs) (n : Nat) : CsRep R (cs.take n) (vs.take n) := by
  refine ⟨by simp [h.1], fun j c hj => ?_⟩
  rw [List.getElem?_take] at hj ⊢
  split at hj
  · rename_i hl; rw [if_pos hl]; exact h.2 j c hj
  · cases hj
theorem CsRep.drop {R : Cell → Value → Prop} {cs : List Cell} {vs : List Value} (h : CsRep R cs vs) (n : Nat) : CsRep R (cs.drop n) (vs.drop n) := by
  refine ⟨by simp [h.1], fun j c hj => ?_⟩
  rw [List.getElem?_drop] at hj ⊢
  exact h.2 _ c hj

theorem foldl_set (off : Nat) : ∀ (l : List Value) (k : Nat) (arr : Array Value), off + k + l.length ≤ arr.size →
    (l.zipIdx k).foldl (fun (cs : Array Value) (p : Value × Nat) => cs.setIfInBounds (off + p.2) p.1) arr = (arr.toList.take (off + k) ++ l ++ arr.toList.drop (off + k + l.length)).toArray
  | [], k, arr, h => by simp
  | v :: l, k, arr, h => by
    simp only [List.zipIdx_cons, List.foldl_cons]
    rw [foldl_set off l (k + 1) _ (by simp at h ⊢; omega)]
    simp only [List.length_cons] at h
    congr 1
    rw [Array.toList_setIfInBounds]
    obtain ⟨n, hn⟩ : ∃ n, n = off + k := ⟨_, rfl⟩
    obtain ⟨A, hA⟩ : ∃ A, A = arr.toList := ⟨_, rfl⟩
    have hAl : A.length = arr.size := by rw [hA]; simp
    rw [← hn, ← hA, show off + (k + 1) = n + 1 by omega]
    have hs : A.set n v = A.take n ++ v :: A.drop (n + 1) := by rw [List.set_eq_take_append_cons_drop, if_pos (by omega)]
    have hl : (A.take n).length = n := by simp; omega
    have h1 : (A.set n v).take (n + 1) = A.take n ++ [v] := by
      rw [hs, List.take_append, hl]
      simp [List.take_take, Nat.min_eq_right (show n ≤ n + 1 by omega)]
    have h2 : (A.set n v).drop (n + 1 + l.length) = A.drop (n + (l.length + 1)) := by
      rw [hs, List.drop_append, hl, List.drop_eq_nil_of_le (by omega), show n + 1 + l.length - n = l.length + 1 by omega]
      simp only [List.nil_append, List.drop_succ_cons, List.drop_drop]
      congr 1
      omega
    rw [h1, h2]
    simp

theorem fill_step (off : Nat) (v : Value) (arr : Array Value) (h : off + v.cells.size ≤ arr.size) :
    v.cells.zipIdx.foldl (fun cs (c, j) => cs.setIfInBounds (off + j) c) arr = (arr.toList.take off ++ v.cells.toList ++ arr.toList.drop (off + v.cells.size)).toArray := by
  have := foldl_set off v.cells.toList 0 arr (by simpa using h)
  rw [← Array.foldl_toList]
  simpa [Array.toList_zipIdx] using this

theorem fillC_sound (hΓ : TypesOk P Γ) (h : Inv B N nt C st a w) {fs : List (Nat × TypeId)} {places : Nat → Option (Nat × Nat)} (hp : ∀ (i off : Nat) (t : TypeId) (ti : TI), fs[i]? = some (off, t) → Γ.lookup t = some ti → places i = some (off, ti.sz)) :
    ∀ (parts : List (Nat × Operand)) (cells : List Cell) (arr : Array Value) (cs : List Cell), fillC Γ fs st cells parts = some cs → CsRep (CRep w (okOf B st C w) C st.own) cells arr.toList → (∀ c ∈ cells, ∀ r ∈ c.refs, ¬ N r) →
      (∀ c ∈ cells, c.lies = true) →
      ∃ r, Instr.fill places arr (parts.map fun (i, x) => (i, a.eval x)) = some r ∧ CsRep (CRep w (okOf B st C w) C st.own) cs r.toList ∧ (∀ c ∈ cs, ∀ r ∈ c.refs, ¬ N r)
  | [], cells, arr, cs, hf, hr, href, _ => by simp [fillC] at hf; subst hf; exact ⟨arr, rfl, hr, href⟩
  | (i, x) :: rest, cells, arr, cs, hf, hr, href, hlies => by
    unfold fillC at hf
    split at hf
    case h_2 => cases hf
    rename_i off t v hfi hx
    split at hf
    case h_2 => cases hf
    rename_i ti hti
    split at hf
    case isFalse => cases hf
    rename_i hlen
    obtain ⟨e1, e2⟩ := ev_sound h hx
    have hvl : ∀ c ∈ v.cells, c.lies = true := by simpa using hlen.2.2
    obtain ⟨g1, g2, g3⟩ := t1_cells e1 (fun c hc u hu => lies_one (hvl c hc) hu)
    have hsz : arr.size = cells.length := by simpa using hr.1
    have hfit : off + (a.eval x).cells.size ≤ arr.size := by rw [g1, hsz]; exact hlen.2.1
    have hrefs : ∀ c ∈ v.cells, ∀ r ∈ c.refs, ¬ N r := by
      intro c hc r hr'
      apply e2 r
      cases v with
      | one c' => simp [T1.cells] at hc; subst hc; exact hr'
      | agg cs => exact List.mem_flatMap.2 ⟨c, hc, hr'⟩
    have hmem : ∀ c ∈ cells.take off ++ v.cells ++ cells.drop (off + v.cells.length), c ∈ cells ∨ c ∈ v.cells := by
      intro c hc
      simp only [List.mem_append] at hc
      rcases hc with (hc | hc) | hc
      · exact .inl (List.mem_of_mem_take hc)
      · exact .inr hc
      · exact .inl (List.mem_of_mem_drop hc)
    have ih := fillC_sound hΓ h hp rest _ (arr.toList.take off ++ (a.eval x).cells.toList ++ arr.toList.drop (off + (a.eval x).cells.size)).toArray cs hf
      (by
        have := ((hr.take off).append (show CsRep _ v.cells (a.eval x).cells.toList from ⟨by simpa using g1, fun j c hj => by simpa using g3 j c hj⟩)).append (hr.drop (off + v.cells.length))
        rw [g1]; exact this)
      (fun c hc r hr' => (hmem c hc).elim (fun hc => href c hc r hr') fun hc => hrefs c hc r hr')
      (fun c hc => (hmem c hc).elim (hlies c) (hvl c))
    obtain ⟨r, ih1, ih2⟩ := ih
    refine ⟨r, ?_, ih2⟩
    simp only [List.map_cons, Instr.fill, hp i off t ti hfi hti]
    rw [if_neg (by simp only [ne_eq, Bool.or_eq_true, decide_eq_true_eq, not_or]; refine ⟨by rw [g1]; simp [hlen.1], by omega⟩), fill_step off _ arr hfit]
    exact ih1

theorem sound_build (hΓ : TypesOk P Γ) (t : TypeId) (parts : Array (Nat × Operand)) : Sound P Γ (.build t parts) := by
  intro B N nt C st a w base e h hN he
  simp only [aeff] at he
  split at he
  case h_2 => cases he
  rename_i z ag fs ht
  split at he
  case isFalse => cases he
  rename_i hall
  simp only [Option.map_eq_some_iff] at he
  obtain ⟨cs, hf, rfl⟩ := he
  obtain ⟨i, zv, d, hi, hs, _, hz, hu, hzc, hk, _, hone⟩ := TIok.facts (hΓ.ok t _ ht)
  obtain ⟨flds, rfl, hfl⟩ := kind_struct hk
  obtain ⟨f1, f2, f3⟩ := zcells_sound (w := w) (ok := okOf B st C w) (C := C) (own := st.own) hzc
  have hinfo : ∀ f ∈ flds.toList, ∃ fi, P.info? f.type = some fi ∧ ∀ ti, Γ.lookup f.type = some ti → fi.size = ti.sz := by
    intro f hf
    have h1 := hall.1
    rw [List.all_eq_true] at h1
    have h2 := h1 (f.offset, f.type) (by rw [← hfl]; exact List.mem_map.2 ⟨f, hf, rfl⟩)
    obtain ⟨ti, hti⟩ := Option.isSome_iff_exists.1 h2
    obtain ⟨fi, _, _, hfi, hfs, _⟩ := TIok.facts (hΓ.ok _ ti hti)
    exact ⟨fi, hfi, fun ti' hti' => by rw [hti] at hti'; cases hti'; exact hfs⟩
  obtain ⟨places, hpl, hpl2⟩ : ∃ places : List (Nat × Nat), flds.toList.mapM (fun f => (P.info? f.type).map fun i => (f.offset, i.size)) = some places ∧
      ∀ (j : Nat) (f : Field) (fi : TypeInfo), flds.toList[j]? = some f → P.info? f.type = some fi → places[j]? = some (f.offset, fi.size) := by
    revert hinfo
    generalize flds.toList = l
    intro hinfo
    clear hf hfl hk hall
    induction l with
    | nil => exact ⟨[], by simp, fun j f fi hj => by simp at hj⟩
    | cons f l ih =>
      obtain ⟨fi, hfi, _⟩ := hinfo f (by simp)
      obtain ⟨pl, h1, h2⟩ := ih (fun f' hf' => hinfo f' (by simp [hf']))
      refine ⟨(f.offset, fi.size) :: pl, by simp [List.mapM_cons, hfi, h1], fun j f' fi' hj hfi' => ?_⟩
      cases j with
      | zero => simp at hj; subst hj; rw [hfi] at hfi'; cases hfi'; rfl
      | succ j => simpa using h2 j f' fi' (by simpa using hj) hfi'
  have hplaces : ∀ (i off : Nat) (t : TypeId) (ti : TI), fs[i]? = some (off, t) → Γ.lookup t = some ti → places.toArray[i]? = some (off, ti.sz) := by
    intro i off t ti hfi hti
    obtain ⟨f, hf1, hf2, hf3⟩ := field_at hfl hfi
    have hfm : flds.toList[i]? = some f := by simpa using hf1
    obtain ⟨fi, hfi', hsz⟩ := hinfo f (List.mem_of_getElem? hfm)
    have := hpl2 i f fi hfm hfi'
    rw [hf2, hsz ti (by rw [hf3]; exact hti)] at this
    simpa using this
  obtain ⟨r, hr1, hr2, hr3⟩ := fillC_sound hΓ h hplaces parts.toList z zv.cells cs hf ⟨by simpa using f1, fun j c hj => by simpa using f3 j c hj⟩ (fun c hc r hr => by rw [f2 c hc] at hr; cases hr)
    (by simpa using hall.2)
  refine ⟨.agg r, w, C, runs_value fun o' ho => ?_, after_pure (tv := .v (.agg cs)) h base ⟨r, rfl, by simpa using hr2.1, fun j c hj => by simpa using hr2.2 j c hj⟩ (fun r hr => ?_)⟩
  · have hb : P.built t (parts.map fun (i, x) => (i, a.eval x)).toList = some r := by
      unfold Program.built
      simp only [hi, hu, hz, hpl, Array.toList_map]
      exact hr1
    have := run_build (P := P) w t (parts.map fun (i, x) => (i, a.eval x)) r hb
    simp [execOp, ho, this]
  · obtain ⟨c, hc, hrc⟩ := List.mem_flatMap.1 (show r ∈ cs.flatMap Cell.refs from hr)
    exact hr3 c hc r hrc

theorem toDs_sound {ok : Nat → Prop} {own : Nat → Option OwnB} : ∀ {cs : List Cell} {ds : List D}, toDs cs = some ds → ds.length = cs.length ∧ (∀ c ∈ cs, c.lies = true ∧ c.refs = []) ∧
    ∀ (j : Nat) (x : D), ds[j]? = some x → ∃ c, cs[j]? = some c ∧ ∀ u, CRep w ok C own c u → DRep w ok x u
  | [], ds, h => by simp [toDs] at h; subst h; simp
  | c :: cs, ds, h => by
    simp only [toDs] at h
    cases h1 : c.toD with
    | none => simp [h1] at h
    | some x =>
      cases h2 : toDs cs with
      | none => simp [h1, h2] at h
      | some xs =>
        simp [h1, h2] at h
        subst h
        obtain ⟨f1, f2, f3⟩ := toDs_sound (ok := ok) (own := own) h2
        have hc : (c.lies = true ∧ c.refs = []) ∧ ∀ u, CRep w ok C own c u → DRep w ok x u := by
          cases c <;> simp [Cell.toD] at h1
          · subst h1; exact ⟨⟨rfl, rfl⟩, fun u hu => hu⟩
          · subst h1; exact ⟨⟨rfl, rfl⟩, fun u hu => by rw [show u = _ from hu]; exact .lnil _ _⟩
        refine ⟨by simp [f1], by simpa using ⟨hc.1, f2⟩, fun j y hj => ?_⟩
        cases j with
        | zero => simp at hj; subst hj; exact ⟨c, rfl, hc.2⟩
        | succ j => simpa using f3 j y (by simpa using hj)

theorem fill_row (h : Inv B N nt C st a w) (sz : Nat) : ∀ (parts : List (Nat × Operand)) (i : Nat) (xs : List (List D)) (arr : Array Value), litRow sz st i parts = some xs → (i + xs.length) * sz ≤ arr.size →
    ∃ r, Instr.fill (fun i => some (i * sz, sz)) arr (parts.map fun (j, x) => (j, a.eval x)) = some r ∧ r.size = arr.size ∧ (∀ k, k < i * sz → r[k]? = arr[k]?) ∧ (∀ cs ∈ xs, cs.length = sz) ∧
      ∀ (p q : Nat) (ds : List D) (d : D), xs[p]? = some ds → ds[q]? = some d → ∃ v, r[(i + p) * sz + q]? = some v ∧ DRep w (okOf B st C w) d v
  | [], i, xs, arr, hl, _ => by simp [litRow] at hl; subst hl; exact ⟨arr, rfl, rfl, fun _ _ => rfl, by simp, by simp⟩
  | (j, x) :: rest, i, xs, arr, hl, hfit => by
    unfold litRow at hl
    split at hl
    case isFalse => cases hl
    rename_i hji
    subst hji
    split at hl
    case h_2 => cases hl
    rename_i t hx
    split at hl
    case h_2 => cases hl
    rename_i ds xs' hds hxs
    split at hl
    case isFalse => cases hl
    rename_i hdl
    injection hl with hl; subst hl
    obtain ⟨e1, _⟩ := ev_sound h hx
    obtain ⟨f1, f2, f3⟩ := toDs_sound (w := w) (ok := okOf B st C w) (C := C) (own := st.own) hds
    obtain ⟨g1, g2, g3⟩ := t1_cells e1 (fun c hc u hu => lies_one (f2 c hc).1 hu)
    have hcs : (a.eval x).cells.size = sz := by rw [g1, ← f1, hdl]
    simp only [List.length_cons] at hfit
    have hfit1 : j * sz + (a.eval x).cells.size ≤ arr.size := by
      rw [hcs]
      have : (j + 1) * sz ≤ (j + (xs'.length + 1)) * sz := Nat.mul_le_mul_right _ (by omega)
      rw [Nat.add_mul, Nat.one_mul] at this
      omega
    let arr' : Array Value := (arr.toList.take (j * sz) ++ (a.eval x).cells.toList ++ arr.toList.drop (j * sz + (a.eval x).cells.size)).toArray
    have hsz' : arr'.size = arr.size := by simp [arr']; omega
    obtain ⟨r, ih1, ih2, ih3, ih4, ih5⟩ := fill_row h sz rest (j + 1) xs' arr' hxs (by rw [hsz', show j + 1 + xs'.length = j + (xs'.length + 1) by omega]; exact hfit)
    refine ⟨r, ?_, by rw [ih2, hsz'], ?_, by simpa using ⟨hdl, ih4⟩, ?_⟩
    · simp only [List.map_cons, Instr.fill]
      rw [if_neg (by simp only [ne_eq, Bool.or_eq_true, decide_eq_true_eq, not_or]; exact ⟨by omega, by omega⟩), fill_step (j * sz) _ arr hfit1]
      exact ih1
    · intro k hk
      rw [ih3 k (by rw [Nat.add_mul]; omega)]
      simp only [arr', List.getElem?_toArray]
      rw [List.append_assoc, List.getElem?_append_left (by simp; omega), List.getElem?_take, if_pos hk]
      simp
    · intro p q ds' d hp hq
      cases p with
      | zero =>
        simp at hp; subst hp
        have hql : q < sz := by rw [← hdl]; exact (List.getElem?_eq_some_iff.1 hq).1
        obtain ⟨c, hc, hcr⟩ := f3 q d hq
        obtain ⟨u, hu, hur⟩ := g3 q c hc
        refine ⟨u, ?_, hcr u hur⟩
        rw [Nat.add_zero, ih3 _ (by rw [Nat.add_mul]; omega)]
        simp only [arr', List.getElem?_toArray]
        have hl0 : (arr.toList.take (j * sz)).length = j * sz := by simp; omega
        rw [List.append_assoc, List.getElem?_append_right (by omega), hl0, Nat.add_sub_cancel_left, List.getElem?_append_left (by simp; omega)]
        simpa using hu
      | succ p =>
        obtain ⟨v, hv, hr⟩ := ih5 p q ds' d (by simpa using hp) hq
        exact ⟨v, by rw [show j + (p + 1) = j + 1 + p by omega]; exact hv, hr⟩

theorem after_new_own (h : Inv B N nt C st a w) {base : Nat} (hN : ∀ j, j < 1000 → N (base + j)) {w' : World} {arr : Array Value} {e : OwnB} {c : Nat} {us : List Nat} (hn : New1 w (.cells arr e.et) w') (hsz : 0 < e.sz)
    (hle : arr.size = c * e.sz) (hxc : e.xs.length ≤ c) (hc : c ≤ 9223372036854775807) (hcs : ∀ cs ∈ e.xs, cs.length = e.sz)
    (hd : ∀ (i j : Nat) (cs : List D) (x : D), e.xs[i]? = some cs → cs[j]? = some x → ∃ v, arr[i * e.sz + j]? = some v ∧ DRep w (okOf B st C w) x v) :
    After B N (Less N base) C st w ⟨.c (.own base none), [(base, some e)], [], us⟩ (.slice (some ⟨w.heap.size, 0, none⟩) e.xs.length c) (upd C base (some w.heap.size)) w' where
  mm := h.toMm.new_own h.res h.ancN (hN 0 (by omega)) hn hsz (by rw [hle]; exact Nat.mul_le_mul_right _ hxc) hcs hd
  keep := (Moves.new_own (e := e) (hN 0 (by omega)) h.res hn).keep
  val := .inr ⟨w.heap.size, e.xs.length, c, upd_same _ _ _, rfl, hxc, hc, fun e' he' => by
    have he2 : upd st.own base (some e) base = some e' := he'
    rw [upd_same] at he2; injection he2 with he2; subst he2
    exact ⟨rfl, Nat.le_refl _, arr, hn.new, hle⟩⟩
  res := res_new_own h.res
  vres r hr hn := by simp [TV.refs, T1.refs, Cell.refs] at hr; subst hr; exact less_ne hn rfl
  sub _ hi := hi.1

theorem sound_buildSlice (hΓ : TypesOk P Γ) (t : TypeId) (len : Nat) (parts : Array (Nat × Operand)) : Sound P Γ (.buildSlice t len parts) := by
  intro B N nt C st a w base e h hN he
  simp only [aeff] at he
  split at he
  case h_2 => cases he
  rename_i et ht
  split at he
  case h_2 => cases he
  rename_i te hte
  split at he
  case h_2 => cases he
  rename_i xs hxs
  split at he
  case isFalse => cases he
  rename_i hc
  obtain ⟨hc1, hc2, hc3⟩ := hc
  injection he with he; subst he
  obtain ⟨_, _, d, _, _, _, _, hu, _, hk, _⟩ := TIok.facts (hΓ.ok t _ ht)
  obtain ⟨ei, ez, _, hei, hes, _, hez, _⟩ := TIok.facts (hΓ.ok et _ hte)
  rw [kind_slice hk] at hu
  have key : ∀ arr : Array Value, arr.size = len * te.sz → ∃ r, Instr.fill (fun i => some (i * te.sz, te.sz)) arr (parts.map fun (j, x) => (j, a.eval x)).toList = some r ∧
      After B N (Less N base) C st w ⟨.c (.own base none), [(base, some ⟨et, te.sz, xs⟩)], [], [base]⟩ (.slice (some ⟨w.heap.size, 0, none⟩) len len) (upd C base (some w.heap.size)) { w with heap := w.heap.push (.cells r et) } := by
    intro arr harr
    obtain ⟨r, r1, r2, _, r4, r5⟩ := fill_row h te.sz parts.toList 0 xs arr hxs (by rw [harr, hc1]; simp)
    refine ⟨r, by simpa using r1, ?_⟩
    have hfin := after_new_own (e := ⟨et, te.sz, xs⟩) (us := [base]) h hN (new1_alloc w (.cells r et)) hc2 (by rw [r2, harr]) (Nat.le_of_eq hc1) ?_ r4 (fun i j cs x hi hj => by simpa using r5 i j cs x hi hj)
    · rw [← hc1]; rw [← hc1] at hfin; exact hfin
    · have : len * 1 ≤ len * te.sz := Nat.mul_le_mul_left _ hc2
      omega
  by_cases h0 : len * te.sz = 0
  · obtain ⟨r, r1, r2⟩ := key ((Array.range (len * te.sz)).map (fun x => (#[] : Array Value)[x % (#[] : Array Value).size]!)) (by simp)
    refine ⟨_, _, _, runs_value fun o' ho => ?_, r2⟩
    have h16 : ¬ (16777216 < len * te.sz) := by omega
    simp only [execOp, ho, Instr.buildSlice, Sem.run_bind, run_underlying hu, Result.andThen_ok, sizeOf, typeInfo, run_program, hei, Sem.run_pure, hes]
    simp [h16, h0] at r1 ⊢
    simp [r1, newRow]
  · obtain ⟨r, r1, r2⟩ := key ((Array.range (len * te.sz)).map (fun x => ez.cells[x % ez.cells.size]!)) (by simp)
    refine ⟨_, _, _, runs_value fun o' ho => ?_, r2⟩
    have h16 : ¬ (16777216 < len * te.sz) := by omega
    simp only [execOp, ho, Instr.buildSlice, Sem.run_bind, run_underlying hu, Result.andThen_ok, sizeOf, typeInfo, run_program, hei, Sem.run_pure, hes]
    simp only [h16, h0, if_false, Sem.run_ite, Sem.run_bind, Sem.run_pure, zeroValue, typeInfo, run_program, hei, Result.andThen_ok, hez]
    simp at r1 ⊢
    simp [h16, r1, newRow, hei, hez]
end
end Go.Eng
