/-
Each operation of the model does what the reckoned effect says: append and the other builtins; all operations together.
-/
import Derived.Test.YtnnadlpfbfajdaaGreatDoorEngL
import Derived.Test.YtnnadlpfbfajdaaGreatDoorEng5
namespace Go.Eng
open Go
set_option linter.unusedVariables false
set_option linter.unusedSimpArgs false

section
variable {P : Program} {Γ : Types} {B : Base} {N : Nat → Prop} {nt : Nat} {C : Nat → Option Nat} {st : St} {a : Act} {w : World}

theorem drep_one {ok : Nat → Prop} {x : D} {v : Value} (h : DRep w ok x v) : v.oneCell' = true := by cases h <;> rfl

/-- The elements that a slice value shows, as they lie in memory. -/
theorem elems_sound (h : Inv B N nt C st a w) {tv : TV} {v : Value} (hv : TRep (CRep w (okOf B st C w) C st.own) tv v) {xs : List (List D)} {us : List Nat} (he : st.elems tv = some (xs, us)) {sz : Nat} (hsz : ∀ cs ∈ xs, cs.length = sz) :
    ∃ (p : Option Addr) (c : Nat), v = .slice p xs.length c ∧ (xs ≠ [] → ∃ ad, p = some ad ∧ ∀ (i j : Nat) (cs : List D) (x : D), xs[i]? = some cs → cs[j]? = some x → ∃ u, w.cell? (ad.add (i * sz + j)) = some u ∧ DRep w (okOf B st C w) x u) := by
  have ownc : ∀ (id : Nat) (p : Option Nat) (e : OwnB), st.own id = some e → CRep w (okOf B st C w) C st.own (.own id p) v →
      ∃ (q : Option Addr) (c : Nat), v = .slice q (p.getD e.xs.length) c ∧ p.getD e.xs.length ≤ e.xs.length ∧ (p.getD e.xs.length ≠ 0 → ∃ ad, q = some ad ∧ ∀ (i j : Nat) (cs : List D) (x : D), e.xs[i]? = some cs → cs[j]? = some x → ∃ u, w.cell? (ad.add (i * e.sz + j)) = some u ∧ DRep w (okOf B st C w) x u) := by
    intro id p e ho hc
    rcases hc with ⟨h1, h2, h3⟩ | ⟨b, n, c, hb, hv, _, _, h4⟩
    · exact ⟨none, 0, by rw [h2, h3 e ho], by rw [h3 e ho]; exact Nat.zero_le _, fun h0 => absurd (h3 e ho) h0⟩
    · obtain ⟨h5, h6, _⟩ := h4 e ho
      refine ⟨_, c, by rw [hv, h5], by rw [← h5]; exact h6, fun _ => ⟨_, rfl, fun i j cs x hi hj => ?_⟩⟩
      obtain ⟨_, arr, hh, _, _, hcell⟩ := own_block h ho hb
      obtain ⟨u, hu, hr⟩ := hcell i j cs x hi hj
      exact ⟨u, by rw [add_off]; simp [World.cell?, hh, hu], hr⟩
  have ownsz : ∀ (id : Nat) (e : OwnB) (n : Nat), st.own id = some e → n ≤ e.xs.length → n ≠ 0 → (∀ cs ∈ e.xs.take n, cs.length = sz) → e.sz = sz := by
    intro id e n ho hn hn0 hs
    have hl : 0 < e.xs.length := by omega
    have h1 : e.xs[0] ∈ e.xs.take n := by rw [List.mem_take_iff_getElem]; exact ⟨0, by omega, rfl⟩
    obtain ⟨_, h2⟩ := h.own id e ho
    rcases h2 with ⟨_, h2⟩ | ⟨_, _, _, _, _, h2, _⟩
    · rw [h2] at hl; cases hl
    · rw [← h2 _ (List.getElem_mem hl), hs _ h1]
  unfold St.elems at he
  split at he
  · injection he with he; injection he with he _; subst he
    have e2 : DRep w (okOf B st C w) (.lst _) v := hv
    cases e2 with
    | lnil p c => exact ⟨p, c, rfl, fun h0 => absurd rfl h0⟩
    | lst _ p c sz' val hne hc hok hs hv' hr =>
      have : sz' = sz := by
        obtain ⟨y, hy⟩ := List.exists_mem_of_ne_nil _ hne
        rw [← hs y hy, hsz y hy]
      subst this
      exact ⟨_, _, rfl, fun _ => ⟨p, rfl, fun i j cs x hi hj => ⟨_, hv' i j cs x hi hj, hr i j cs x hi hj⟩⟩⟩
  · injection he with he; injection he with he _; subst he
    exact ⟨none, 0, hv, fun h0 => absurd rfl h0⟩
  · rename_i id
    simp only [Option.map_eq_some_iff] at he
    obtain ⟨e, ho, he⟩ := he
    injection he with he _; subst he
    obtain ⟨q, c, h1, _, h2⟩ := ownc id none e ho hv
    refine ⟨q, c, h1, fun h0 => ?_⟩
    have hl0 : e.xs.length ≠ 0 := fun hl => h0 (List.eq_nil_of_length_eq_zero hl)
    have := ownsz id e e.xs.length ho (Nat.le_refl _) hl0 (by rw [List.take_length]; exact hsz)
    rw [← this]
    exact h2 hl0
  · rename_i id n
    simp only [Option.map_eq_some_iff] at he
    obtain ⟨e, ho, he⟩ := he
    injection he with he _; subst he
    obtain ⟨q, c, h1, h3, h2⟩ := ownc id (some n) e ho hv
    have h3' : n ≤ e.xs.length := h3
    have hl : (e.xs.take n).length = n := by simp; omega
    refine ⟨q, c, by rw [hl]; exact h1, fun h0 => ?_⟩
    have hn0 : n ≠ 0 := fun hn => h0 (by subst hn; simp)
    have hsz' := ownsz id e n ho h3' hn0 hsz
    obtain ⟨ad, hq, h4⟩ := h2 hn0
    refine ⟨ad, hq, fun i j cs x hi hj => ?_⟩
    rw [← hsz']
    refine h4 i j cs x ?_ hj
    rw [List.getElem?_take] at hi
    split at hi
    · exact hi
    · cases hi
  · rename_i id lo n
    simp only [Option.map_eq_some_iff] at he
    obtain ⟨e, ho, he⟩ := he
    injection he with he _; subst he
    obtain ⟨p, c, h1, hc, hl, hb⟩ := hv e ho
    have hl2 : ((e.xs.drop lo).take n).length = n := by simp; omega
    refine ⟨p, c, by rw [hl2]; exact h1, fun h0 => ?_⟩
    have hn0 : 0 < n := by
      refine Nat.pos_of_ne_zero fun hn => h0 ?_
      subst hn; simp
    obtain ⟨b, g1, g2⟩ := hb hn0
    have hlo : lo < e.xs.length := by omega
    have hsz' : e.sz = sz := by
      have hm : e.xs[lo] ∈ (e.xs.drop lo).take n := by
        rw [List.mem_take_iff_getElem]
        exact ⟨0, by simp; omega, by simp⟩
      obtain ⟨_, h2⟩ := h.own id e ho
      rcases h2 with ⟨_, h2⟩ | ⟨_, _, _, _, _, h2, _⟩
      · rw [h2] at hlo; simp at hlo
      · rw [← h2 _ (List.getElem_mem hlo), hsz _ hm]
    refine ⟨_, g2, fun i j cs x hi hj => ?_⟩
    obtain ⟨_, arr, hh, _, _, hcell⟩ := own_block h ho g1
    have hi' : e.xs[lo + i]? = some cs := by
      rw [List.getElem?_take] at hi
      split at hi
      · rwa [List.getElem?_drop] at hi
      · cases hi
    obtain ⟨u, hu, hr⟩ := hcell (lo + i) j cs x hi' hj
    refine ⟨u, ?_, hr⟩
    rw [add_off, ← hsz', show lo * e.sz + (i * e.sz + j) = (lo + i) * e.sz + j by rw [Nat.add_mul]; omega]
    simp [World.cell?, hh, hu]
  · cases he

theorem news_list {ad : Addr} {sz : Nat} {xs : List (List D)} {ok : Nat → Prop} (hsz : ∀ cs ∈ xs, cs.length = sz)
    (hc : ∀ (i j : Nat) (cs : List D) (x : D), xs[i]? = some cs → cs[j]? = some x → ∃ u, w.cell? (ad.add (i * sz + j)) = some u ∧ DRep w ok x u) :
    ∃ news : List Value, news.length = xs.length * sz ∧ (∀ j v, news[j]? = some v → w.cell? (ad.add j) = some v) ∧ (∀ v ∈ news, v.oneCell' = true) ∧
      ∀ (i j : Nat) (cs : List D) (x : D), xs[i]? = some cs → cs[j]? = some x → ∃ u, news[i * sz + j]? = some u ∧ DRep w ok x u := by
  have hk : ∀ k, k < xs.length * sz → ∃ u x, w.cell? (ad.add k) = some u ∧ DRep w ok x u := by
    intro k hk
    have hsz0 : 0 < sz := by rcases Nat.eq_zero_or_pos sz with h0 | h0; subst h0; simp at hk; exact h0
    have h1 : k / sz < xs.length := (Nat.div_lt_iff_lt_mul hsz0).2 hk
    have h2 : k % sz < (xs[k / sz]).length := by rw [hsz _ (List.getElem_mem h1)]; exact Nat.mod_lt _ hsz0
    obtain ⟨u, hu, hr⟩ := hc (k / sz) (k % sz) _ _ (List.getElem?_eq_getElem h1) (List.getElem?_eq_getElem h2)
    refine ⟨u, _, ?_, hr⟩
    rw [show k / sz * sz + k % sz = k by rw [Nat.mul_comm]; exact Nat.div_add_mod k sz] at hu
    exact hu
  refine ⟨(List.range (xs.length * sz)).map fun k => (w.cell? (ad.add k)).getD Go.undef, by simp, fun j v hj => ?_, fun v hv => ?_, fun i j cs x hi hj => ?_⟩
  · rw [List.getElem?_map, Option.map_eq_some_iff] at hj
    obtain ⟨k, hk1, rfl⟩ := hj
    obtain ⟨hk2, hk3⟩ := List.getElem?_eq_some_iff.1 hk1
    simp at hk2 hk3
    subst hk3
    obtain ⟨u, _, hu, _⟩ := hk j hk2
    rw [hu]; rfl
  · obtain ⟨k, hk1, rfl⟩ := List.mem_map.1 hv
    obtain ⟨u, x, hu, hr⟩ := hk k (by simpa using hk1)
    rw [hu]; exact drep_one hr
  · obtain ⟨u, hu, hr⟩ := hc i j cs x hi hj
    have hjl : j < sz := by rw [← hsz cs (List.mem_of_getElem? hi)]; exact (List.getElem?_eq_some_iff.1 hj).1
    have hil : i < xs.length := (List.getElem?_eq_some_iff.1 hi).1
    have hlt : i * sz + j < xs.length * sz := by
      have : (i + 1) * sz ≤ xs.length * sz := Nat.mul_le_mul_right _ hil
      rw [Nat.add_mul, Nat.one_mul] at this
      omega
    refine ⟨u, ?_, hr⟩
    rw [List.getElem?_map, List.getElem?_range hlt]
    simp [hu]

theorem run_append_zero {t ty e : TypeId} {i : TypeInfo} (ht : P.underlying t = some (.slice e)) (hi : P.info? e = some i) (b : Option Addr) (n c : Nat) (hnc : n ≤ c) (p : Option Addr) (c' : Nat) :
    (Builtin.append_ #[t, t] ty #[.slice b n c, .slice p 0 c']).run P w = .ok (.slice b n c) w := by
  have hf : (Builtin.firstCells i.size 0 (.slice p 0 c')).run P w = .ok #[] w := by
    cases p <;> simp [Builtin.firstCells, loadCells, loadCellsFrom]
  cases b <;> simp [Builtin.append_, run_underlying ht, sizeOf, typeInfo, hi, Builtin.lenOf, hnc, hf, storeCells]

/-- The list of what lies in the cells of a block of one's own. -/
theorem own_olds {e : OwnB} {arr : Array Value} {ok : Nat → Prop} (hle : e.xs.length * e.sz ≤ arr.size) :
    (arr.toList.take (e.xs.length * e.sz)).length = e.xs.length * e.sz := by simp; omega

theorem concat_rep {ok : Nat → Prop} {xs ys : List (List D)} {us vs : List Value} {sz : Nat} (rest : List Value) (hul : us.length = xs.length * sz) (hsz : ∀ cs ∈ xs, cs.length = sz)
    (hysz : ∀ cs ∈ ys, cs.length = sz) (hvl : vs.length = ys.length * sz)
    (hu : ∀ (i j : Nat) (cs : List D) (x : D), xs[i]? = some cs → cs[j]? = some x → ∃ u, us[i * sz + j]? = some u ∧ DRep w ok x u)
    (hv : ∀ (i j : Nat) (cs : List D) (x : D), ys[i]? = some cs → cs[j]? = some x → ∃ u, vs[i * sz + j]? = some u ∧ DRep w ok x u) :
    ∀ (i j : Nat) (cs : List D) (x : D), (xs ++ ys)[i]? = some cs → cs[j]? = some x → ∃ u, (us ++ vs ++ rest)[i * sz + j]? = some u ∧ DRep w ok x u := by
  intro i j cs x hi hj
  by_cases hil : i < xs.length
  · rw [List.getElem?_append_left hil] at hi
    obtain ⟨u, h1, h2⟩ := hu i j cs x hi hj
    have := (List.getElem?_eq_some_iff.1 h1).1
    exact ⟨u, by rw [List.append_assoc, List.getElem?_append_left this]; exact h1, h2⟩
  · rw [List.getElem?_append_right (by omega)] at hi
    obtain ⟨u, h1, h2⟩ := hv _ j cs x hi hj
    have h3 := (List.getElem?_eq_some_iff.1 h1).1
    have h4 : xs.length * sz ≤ i * sz := Nat.mul_le_mul_right _ (by omega)
    rw [Nat.sub_mul] at h1 h3
    exact ⟨u, by rw [List.append_assoc, List.getElem?_append_right (by omega), List.getElem?_append_left (by omega), hul, show i * sz + j - xs.length * sz = i * sz - xs.length * sz + j by omega]; exact h1, h2⟩

def Shows (w : World) (ok : Nat → Prop) (vy : Value) (xs : List (List D)) (sz : Nat) : Prop :=
  ∃ (p : Option Addr) (c : Nat), vy = .slice p xs.length c ∧ (xs ≠ [] → ∃ ad, p = some ad ∧ ∀ (i j : Nat) (cs : List D) (x : D), xs[i]? = some cs → cs[j]? = some x → ∃ u, w.cell? (ad.add (i * sz + j)) = some u ∧ DRep w ok x u)
theorem Shows.mono {ok ok' : Nat → Prop} {vy : Value} {xs : List (List D)} {sz : Nat} (h : Shows w ok vy xs sz) (hok : ∀ b, ok b → ok' b) : Shows w ok' vy xs sz := by
  obtain ⟨p, c, h1, h2⟩ := h
  refine ⟨p, c, h1, fun h0 => ?_⟩
  obtain ⟨ad, h3, h4⟩ := h2 h0
  exact ⟨ad, h3, fun i j cs x hi hj => (h4 i j cs x hi hj).imp fun u hu => ⟨hu.1, hu.2.mono (fun _ _ => rfl) hok⟩⟩

theorem own_vres {base : Nat} {ou : List (Nat × Option OwnB)} {u : List Nat} : ∀ r ∈ (Eff.v ⟨.c (.own base none), ou, [], u⟩).refs, ¬ Less N base r := fun r hr hn => by
  simp [TV.refs, T1.refs, Cell.refs] at hr; subst hr; exact less_ne hn rfl

structure ElemOk (P : Program) (Γ : Types) (t et : TypeId) (te : TI) (ei : TypeInfo) (ez : Value) : Prop where
  hu : P.underlying t = some (.slice et)
  hei : P.info? et = some ei
  hes : ei.size = te.sz
  heb : ei.bytes = te.bytes
  hez : ei.zero = some ez
  hzs : ez.cells.size = te.sz
  pos : 0 < te.sz
  small : te.bytes ≤ 1024

theorem append_nil (h : Inv B N nt C st a w) {base : Nat} (hN : ∀ j, j < 1000 → N (base + j)) {t ty et : TypeId} {te : TI} {ei : TypeInfo} {ez : Value} (hE : ElemOk P Γ t et te ei ez) {vy : Value} {xs : List (List D)} {us : List Nat}
    (hlim : xs.length ≤ LIM) (hsz : ∀ cs ∈ xs, cs.length = te.sz) (hy : Shows w (okOf B st C w) vy xs te.sz) :
    ∃ v w' C', (Builtin.append_ #[t, t] ty #[.slice none 0 0, vy]).run P w = .ok v w' ∧ After B N (Less N base) C st w ⟨.c (.own base none), [(base, some ⟨et, te.sz, xs⟩)], [], us⟩ v C' w' := by
  obtain ⟨p, cy, rfl, hcells⟩ := hy
  by_cases hx0 : xs = []
  · subst hx0
    obtain ⟨m1, m2⟩ := h.toMm.new_nil (e := ⟨et, te.sz, []⟩) h.res h.ancN (hN 0 (by omega)) hE.pos rfl
    exact ⟨_, w, _, run_append_zero hE.hu hE.hei none 0 0 (Nat.le_refl _) p cy, ⟨m2, m1.keep, .inl ⟨upd_same _ _ _, rfl, fun e he => by
      have he2 : upd st.own base _ base = some e := he
      rw [upd_same] at he2; injection he2 with he2; subst he2; rfl⟩, res_new_own h.res, own_vres, fun _ hi => hi.1⟩⟩
  · obtain ⟨ad, rfl, hcc⟩ := hcells hx0
    obtain ⟨news, n1, n2, n3, n4⟩ := news_list hsz hcc
    have hlen : 0 < xs.length := List.length_pos_iff.2 hx0
    simp only [LIM] at hlim
    have hb : xs.length * ei.bytes ≤ 281474976710656 := by rw [hE.heb]; exact Nat.le_trans (Nat.mul_le_mul hlim hE.small) (by omega)
    have hrun := run_append_nil (P := P) w t ty et ei ez hE.hu hE.hei hE.hez ad xs.length cy news (by rw [hE.hes]; exact n1) n2 hlen (by omega) hb
    have hge := grownCap_ge w xs.length 0 et
    have hcm := grownCap_le_maxLen w xs.length 0 et (by simp [maxLen]; omega)
    refine ⟨_, _, _, hrun, after_new_own (e := ⟨et, te.sz, xs⟩) (c := grownCap w xs.length 0 et) h hN ⟨rfl, rfl, rfl, rfl⟩ hE.pos ?_ hge (by simpa [maxLen] using hcm) hsz ?_⟩
    · simp [size_zeroCells, n1, hE.hzs, ← Nat.add_mul]; congr 1; omega
    · intro i j cs x hi hj
      obtain ⟨u, hu, hr⟩ := n4 i j cs x hi hj
      refine ⟨u, ?_, hr⟩
      have := (List.getElem?_eq_some_iff.1 hu).1
      rw [Array.getElem?_append_left (by simpa using this)]
      simpa using hu

theorem inv_drop (h : Inv B N nt C st a w) (id : Nat) : Moves B N C st w C { st with own := upd st.own id none } w ∧ Inv B N nt C { st with own := upd st.own id none } a w := by
  obtain ⟨m1, m2⟩ := h.toMm.drop (id := id) h.res h.ancN
  refine ⟨m1, { m2 with res := ⟨fun j hj => ?_, h.res.box, h.res.t, h.res.cell⟩, ancN := h.ancN, defers := h.defers, size := h.size, tmp := fun s => ?_ }⟩
  · show upd st.own id none j = none
    by_cases hji : j = id
    · subst hji; exact upd_same _ _ _
    · rw [upd_ne _ _ hji]; exact h.res.own j hj
  · exact (h.tmp s).imp fun c u hs hc => m1.keep c u (fun r hr hn => h.res.t r hn s (hs r hr)) hc

theorem after_drop {N' : Nat → Prop} {id : Nat} {tv : TV} {ou : List (Nat × Option OwnB)} {bu : List (Nat × Option (List Cell))} {us us' : List Nat} {v : Value} {C' : Nat → Option Nat} {w' : World}
    (hm : Moves B N C st w C { st with own := upd st.own id none } w) (h : After B N N' C { st with own := upd st.own id none } w ⟨tv, ou, bu, us⟩ v C' w') :
    After B N N' C st w ⟨tv, (id, none) :: ou, bu, us'⟩ v C' w' :=
  ⟨h.mm, fun c u hr hc => h.keep c u hr (hm.keep c u hr hc), h.val, h.res, h.vres, h.sub⟩

theorem append_own (h : Inv B N nt C st a w) {base : Nat} (hN : ∀ j, j < 1000 → N (base + j)) {t ty oet : TypeId} {te : TI} {ei : TypeInfo} {ez : Value} (hE : ElemOk P Γ t oet te ei ez) {id b c : Nat} {oxs0 oxs xs : List (List D)} {us : List Nat} {vy : Value}
    {arr : Array Value} (ho : st.own id = some ⟨oet, te.sz, oxs0⟩) (hpre : ∀ (i : Nat) (cs : List D), oxs[i]? = some cs → oxs0[i]? = some cs) (hlim : oxs.length + xs.length ≤ LIM) (hsz : ∀ cs ∈ xs, cs.length = te.sz) (hb : C id = some b) (hnc : oxs.length ≤ c) (hc63 : c ≤ 9223372036854775807)
    (hh : w.heap[b]? = some (.cells arr oet (0, 0))) (has : arr.size = c * te.sz) (hy' : Shows w (okOf B st C w) vy xs te.sz) :
    ∃ v w' C', (Builtin.append_ #[t, t] ty #[.slice (some ⟨b, 0, none⟩) oxs.length c, vy]).run P w = .ok v w' ∧ After B N (Less N base) C st w ⟨.c (.own base none), [(id, none), (base, some ⟨oet, te.sz, oxs ++ xs⟩)], [], base :: id :: us⟩ v C' w' := by
  have hu := hE.hu
  have hei := hE.hei
  have hes := hE.hes
  have heb := hE.heb
  have hez := hE.hez
  have hzs := hE.hzs
  have hc1 := hE.pos
  have hc2 := hE.small
  obtain ⟨d1, d2⟩ := inv_drop h id
  obtain ⟨_, arr', hh', hle0, hls0, hcell0⟩ := own_block h ho hb
  rw [hh] at hh'; injection hh' with hh'; injection hh' with hh' _ _; subst hh'
  simp only at hle0 hls0 hcell0 has hh
  have hpl : oxs.length ≤ oxs0.length := by
    refine Nat.le_of_not_lt fun hlt => ?_
    have h1 := hpre oxs0.length oxs[oxs0.length] (List.getElem?_eq_getElem hlt)
    rw [List.getElem?_eq_none (Nat.le_refl _)] at h1
    cases h1
  have hle : oxs.length * te.sz ≤ arr.size := Nat.le_trans (Nat.mul_le_mul_right _ hpl) hle0
  have hls : ∀ cs ∈ oxs, cs.length = te.sz := fun cs hcs => by
    obtain ⟨k, hk, rfl⟩ := List.mem_iff_getElem.1 hcs
    exact hls0 _ (List.mem_of_getElem? (hpre k _ (List.getElem?_eq_getElem hk)))
  have hcell : ∀ (i j : Nat) (cs : List D) (x : D), oxs[i]? = some cs → cs[j]? = some x → ∃ u, arr[i * te.sz + j]? = some u ∧ DRep w (okOf B st C w) x u := fun i j cs x hi hj => hcell0 i j cs x (hpre i cs hi) hj
  have hcell' : ∀ (i j : Nat) (cs : List D) (x : D), oxs[i]? = some cs → cs[j]? = some x → ∃ u, (arr.toList.take (oxs.length * te.sz))[i * te.sz + j]? = some u ∧ DRep w (okOf B st C w) x u := by
    intro i j cs x hi hj
    obtain ⟨u, hu, hr⟩ := hcell i j cs x hi hj
    refine ⟨u, ?_, hr⟩
    have hjl : j < te.sz := by rw [← hls cs (List.mem_of_getElem? hi)]; exact (List.getElem?_eq_some_iff.1 hj).1
    have hil : i < oxs.length := (List.getElem?_eq_some_iff.1 hi).1
    have : (i + 1) * te.sz ≤ oxs.length * te.sz := Nat.mul_le_mul_right _ hil
    rw [Nat.add_mul, Nat.one_mul] at this
    rw [List.getElem?_take, if_pos (by omega)]
    simpa using hu
  have htl : (arr.toList.take (oxs.length * te.sz)).length = oxs.length * te.sz := by simp; omega
  have hcs2 : ∀ cs ∈ oxs ++ xs, cs.length = te.sz := by
    intro cs hcs
    rcases List.mem_append.1 hcs with hcs | hcs
    · exact hls cs hcs
    · exact hsz cs hcs
  obtain ⟨p, cy, rfl, hcells⟩ := hy'
  simp only [LIM] at hlim
  -- in place
  have inplace : ∀ (A : Array Value) (w' : World), Put1 w b (.cells A oet (0, 0)) w' → A.size = c * te.sz → oxs.length + xs.length ≤ c →
      (∀ (i j : Nat) (cs : List D) (x : D), (oxs ++ xs)[i]? = some cs → cs[j]? = some x → ∃ u, A[i * te.sz + j]? = some u ∧ DRep w (okOf B st C w) x u) →
      After B N (Less N base) C st w ⟨.c (.own base none), [(id, none), (base, some ⟨oet, te.sz, oxs ++ xs⟩)], [], base :: id :: us⟩ (.slice (some ⟨b, 0, none⟩) (oxs.length + xs.length) c) (upd C base (some b)) w' := by
    intro A w' hp hAs hroom hd
    have hlc : (oxs ++ xs).length * te.sz ≤ A.size := by rw [hAs]; exact Nat.mul_le_mul_right _ (by simpa using hroom)
    obtain ⟨m1, m2⟩ := h.toMm.move_own (e2 := ⟨oet, te.sz, oxs ++ xs⟩) h.res h.ancN ho (hN 0 (by omega)) hb hh hp hc1 rfl (hAs.trans has.symm) hlc hcs2 hd
    refine ⟨m2, m1.keep, .inr ⟨b, _, c, upd_same _ _ _, rfl, hroom, hc63, fun e he => ?_⟩, ?_, own_vres, fun _ hi => hi.1⟩
    · have he2 : upd (upd st.own id none) base (some ⟨oet, te.sz, oxs ++ xs⟩) base = some e := he
      rw [upd_same] at he2; injection he2 with he2; subst he2
      exact ⟨by simp, by simp, A, hp.at_, hAs⟩
    · refine ⟨fun j hj => ?_, fun j hj => h.res.box j hj.1, fun j hj => h.res.t j hj.1, fun j hj => h.res.cell j hj.1⟩
      show upd (upd st.own id none) base _ j = none
      rw [upd_ne _ _ (less_ne hj)]
      by_cases hji : j = id
      · subst hji; exact upd_same _ _ _
      · rw [upd_ne _ _ hji]; exact h.res.own j hj.1
  by_cases hx0 : xs = []
  · subst hx0
    refine ⟨_, w, upd C base (some b), run_append_zero hu hei _ _ c hnc p cy, ?_⟩
    have := inplace arr w ⟨rfl, rfl, rfl, rfl, hh, fun _ _ => rfl⟩ has (by simpa using hnc) (by simpa using hcell)
    simpa using this
  · obtain ⟨ad, rfl, hcc⟩ := hcells hx0
    obtain ⟨news, n1, n2, n3, n4⟩ := news_list hsz hcc
    by_cases hroom : oxs.length + xs.length ≤ c
    · have hfit : oxs.length * ei.size + news.length ≤ arr.size := by rw [hes, n1, has, ← Nat.add_mul]; exact Nat.mul_le_mul_right _ hroom
      have hrun := run_append_room (P := P) w t ty oet ei hu hei b oxs.length c arr hh ad xs.length cy news (by rw [hes]; exact n1) n2 n3 hroom hfit
      rw [hes] at hrun hfit
      obtain ⟨A, hA⟩ : ∃ A, A = (arr.toList.take (oxs.length * te.sz) ++ news ++ arr.toList.drop (oxs.length * te.sz + news.length)).toArray := ⟨_, rfl⟩
      rw [← hA] at hrun
      refine ⟨_, _, upd C base (some b), hrun, inplace A _ (put1_setRow hh) ?_ hroom ?_⟩
      · rw [hA]; simp; omega
      · intro i j cs x hi hj
        rw [hA, List.getElem?_toArray]
        exact concat_rep _ htl hls hsz n1 hcell' n4 i j cs x hi hj
    · have holds : ∀ j v, (arr.toList.take (oxs.length * te.sz))[j]? = some v → w.cell? ((⟨b, 0, none⟩ : Addr).add j) = some v := by
        intro j v hj
        rw [List.getElem?_take] at hj
        split at hj
        · rw [add_off]; simp [World.cell?, hh]; simpa using hj
        · cases hj
      have hb47 : (oxs.length + xs.length) * ei.bytes ≤ 140737488355328 := by rw [heb]; exact Nat.le_trans (Nat.mul_le_mul hlim hc2) (by omega)
      have hrun := run_append_grow (P := P) w t ty oet ei ez hu hei hez ⟨b, 0, none⟩ oxs.length c (arr.toList.take (oxs.length * te.sz)) (by rw [hes]; exact htl) holds ad xs.length cy news (by rw [hes]; exact n1) n2 (by omega) (by omega) (growslice_fits (by omega) hb47)
      have hge := grownCap_ge w (oxs.length + xs.length) c oet
      have hcm := grownCap_le_maxLen w (oxs.length + xs.length) c oet (by simp [maxLen]; omega)
      refine ⟨_, _, upd C base (some w.heap.size), hrun, after_drop d1 (us := us) ?_⟩
      have hl2 : (oxs ++ xs).length = oxs.length + xs.length := by simp
      rw [← hl2]
      refine after_new_own (e := ⟨oet, te.sz, oxs ++ xs⟩) (c := grownCap w (oxs ++ xs).length c oet) d2 hN ⟨rfl, rfl, rfl, rfl⟩ hc1 ?_ (by rw [hl2]; exact hge) (by rw [hl2]; simpa [maxLen] using hcm) hcs2 ?_
      · simp only [Array.size_append, List.size_toArray, size_zeroCells, hzs, htl, n1, hl2, ← Nat.add_mul]
        congr 1
        omega
      · intro i j cs x hi hj
        obtain ⟨u, hu, hr⟩ := concat_rep (Builtin.zeroCells ez.cells (grownCap w (oxs ++ xs).length c oet - (oxs ++ xs).length)).toList htl hls hsz n1 hcell' n4 i j cs x hi hj
        refine ⟨u, ?_, hr.mono (fun _ _ => rfl) d1.hok⟩
        rw [← Array.getElem?_toList]
        simpa using hu

theorem append_sound (hΓ : TypesOk P Γ) (h : Inv B N nt C st a w) {base : Nat} (hN : ∀ j, j < 1000 → N (base + j)) {t ty : TypeId} {x : TV} {vx vy : Value} {xs : List (List D)} {us : List Nat} {e : Eff}
    (he : aappend Γ base st t x xs us = some e) (hx : TRep (CRep w (okOf B st C w) C st.own) x vx) (hy : ∀ sz, (∀ cs ∈ xs, cs.length = sz) → Shows w (okOf B st C w) vy xs sz) :
    ∃ v w' C', (Builtin.append_ #[t, t] ty #[vx, vy]).run P w = .ok v w' ∧ After B N (Less N base) C st w e v C' w' := by
  unfold aappend at he
  split at he
  case h_2 => cases he
  rename_i et ht
  split at he
  case h_2 => cases he
  rename_i te hte
  split at he
  case isFalse => cases he
  rename_i hc
  obtain ⟨hc1, hc2, hc3, hc4⟩ := hc
  have hsz : ∀ cs ∈ xs, cs.length = te.sz := by simpa using hc4
  obtain ⟨_, _, d, _, _, _, _, hu, _, hk, _⟩ := TIok.facts (hΓ.ok t _ ht)
  obtain ⟨ei, ez, _, hei, hes, heb, hez, _, hzc, _, _, _, hzl⟩ := TIok.facts (hΓ.ok et _ hte)
  rw [kind_slice hk] at hu
  have hzs : ez.cells.size = te.sz := by
    have := (zcells_sound (w := w) (ok := okOf B st C w) (C := C) (own := st.own) hzc).1
    rw [hzl] at this; simpa using this
  have hE : ElemOk P Γ t et te ei ez := ⟨hu, hei, hes, heb, hez, hzs, hc1, hc2⟩
  have hy' := hy te.sz hsz
  split at he
  · split at he
    case isFalse => cases he
    rename_i hlim
    injection he with he; subst he
    have hvx : vx = .slice none 0 0 := hx
    subst hvx
    exact append_nil h hN hE hlim hsz hy'
  · rename_i id
    split at he
    case h_2 => cases he
    rename_i oe hoe
    split at he
    case isFalse => cases he
    rename_i hlim
    injection he with he; subst he
    obtain ⟨ho, hoet, hosz⟩ := ownEt_some hoe
    obtain ⟨oet, osz, oxs⟩ := oe
    simp only at hoet hosz hlim
    subst hoet; subst hosz
    obtain ⟨d1, d2⟩ := inv_drop h id
    have hy1 := hy'.mono d1.hok
    rcases hx with ⟨g1, g2, g3⟩ | ⟨b, n, c, hb, hv, hnc, hc63, h4⟩
    · -- one's own, but nil
      have hx0 : oxs = [] := List.eq_nil_of_length_eq_zero (g3 _ ho)
      subst hx0
      subst g2
      obtain ⟨v, w', C', r1, r2⟩ := append_nil (us := us) d2 hN hE (by simpa using hlim) hsz hy1
      exact ⟨v, w', C', r1, after_drop d1 r2⟩
    · obtain ⟨h5, h6, arr, hh, has⟩ := h4 _ ho
      have h5' : n = oxs.length := h5
      subst h5'
      subst hv
      exact append_own h hN hE ho (fun _ _ hi => hi) hlim hsz hb hnc hc63 hh has hy'
  · rename_i id m
    split at he
    case h_2 => cases he
    rename_i oe hoe
    split at he
    case isFalse => cases he
    rename_i hlim
    injection he with he; subst he
    obtain ⟨ho, hoet, hosz⟩ := ownEt_some hoe
    obtain ⟨oet, osz, oxs⟩ := oe
    simp only at hoet hosz hlim
    subst hoet; subst hosz
    obtain ⟨d1, d2⟩ := inv_drop h id
    have hy1 := hy'.mono d1.hok
    rcases hx with ⟨g1, g2, g3⟩ | ⟨b, n, c, hb, hv, hnc, hc63, h4⟩
    · have hm0 : m = 0 := g3 _ ho
      subst hm0
      subst g2
      obtain ⟨v, w', C', r1, r2⟩ := append_nil (us := us) d2 hN hE (by simpa using hlim.2) hsz hy1
      exact ⟨v, w', C', r1, by simpa using after_drop d1 r2⟩
    · obtain ⟨h5, h6, arr, hh, has⟩ := h4 _ ho
      have h5' : n = m := h5
      subst h5'
      subst hv
      have hl : (oxs.take n).length = n := by
        have h6' : n ≤ oxs.length := h6
        simp; omega
      have := append_own (oxs := oxs.take n) (ty := ty) (us := us) h hN hE ho (fun i cs hi => by
        rw [List.getElem?_take] at hi
        split at hi
        · exact hi
        · cases hi) (by rw [hl]; exact hlim.2) hsz hb (by rw [hl]; exact hnc) hc63 hh has hy'
      rw [hl] at this
      exact this
  · cases he

theorem evs_two {x y : Operand} {l : List TV} (h : st.evs [x, y] = some l) : ∃ u v, l = [u, v] ∧ st.ev x = some u ∧ st.ev y = some v := by
  obtain ⟨u, l1, rfl, h1, h2⟩ := evs_one h
  obtain ⟨v, l2, rfl, h3, h4⟩ := evs_one h2
  simp [St.evs] at h4
  subst h4
  exact ⟨u, v, rfl, h1, h3⟩
theorem evs_len : ∀ {xs : List Operand} {l : List TV}, st.evs xs = some l → xs.length = l.length
  | [], l, h => by simp [St.evs] at h; subst h; rfl
  | x :: xs, l, h => by
    obtain ⟨u, l1, rfl, h1, h2⟩ := evs_one h
    simp [evs_len h2]

theorem sound_builtin (hΓ : TypesOk P Γ) (b : Builtin) (al : List Operand) (tl : List TypeId) : Sound P Γ (.call ⟨.builtin b, ⟨al⟩, ⟨tl⟩⟩) := by
  intro B N nt C st a w base e h hN he
  have run : ∀ (v : Value) (w' : World) (s : TypeId → Sem Value), (∀ ty cs, builtin b ⟨tl⟩ ty cs (al.map a.eval).toArray = (do pure (Next.value (← s ty)))) → (∀ ty, (s ty).run P w = .ok v w') → Runs P (.call ⟨.builtin b, ⟨al⟩, ⟨tl⟩⟩) a w v w' := by
    intro v w' s hb hs
    refine runs_value fun o' ho => ?_
    have hm : (Array.mk al).map a.eval = (al.map a.eval).toArray := by simp
    simp only [execOp, ho, resolve, invoke, Sem.run_bind, Sem.run_pure, Result.andThen_ok, hm, hb, hs]
  simp only [aeff] at he
  split at he
  · rename_i t x heq
    have hl := evs_len heq
    match al, hl, heq with
    | [x0], _, heq =>
      obtain ⟨u, l1, h1, h2, h3⟩ := evs_one heq
      injection h1 with h1 _; subst h1
      split at he
      · rename_i ht
        obtain ⟨_, _, d, _, _, _, _, hu, _, hk, _⟩ := TIok.facts (hΓ.ok _ _ ht)
        rw [kind_str hk] at hu
        split at he
        · rename_i s _ _
          injection he with he; subst he
          have hs := rep_str (ev_sound h h2).1
          refine ⟨.int .i64 s.length, w, C, run _ w (fun ty => Builtin.len_ ⟨[t]⟩ ty #[a.eval x0]) (fun _ _ => rfl) (fun ty => ?_), after_d h base (.int _ _)⟩
          simp [Builtin.len_, run_underlying hu, hs, baSize, goInt]
        · cases he
      · rename_i ht
        obtain ⟨_, _, d, _, _, _, _, hu, _, hk, _⟩ := TIok.facts (hΓ.ok _ _ ht)
        rw [kind_slice hk] at hu
        simp only [Option.map_eq_some_iff] at he
        obtain ⟨⟨n, us⟩, hn, rfl⟩ := he
        obtain ⟨p, c, hs⟩ := lenOf_sound h h2 hn
        refine ⟨.int .i64 n, w, C, run _ w (fun ty => Builtin.len_ ⟨[t]⟩ ty #[a.eval x0]) (fun _ _ => rfl) (fun ty => ?_), after_d h base (.int _ _)⟩
        simp [Builtin.len_, run_underlying hu, hs, goInt]
      · cases he
  · rename_i l heq
    split at he
    case h_2 => cases he
    rename_i k n ns hi
    injection he with he; subst he
    have hv := ints_sound h heq hi
    refine ⟨.int k (ns.foldl imax n), w, C, run _ w (fun ty => Builtin.max_ ⟨_⟩ ty (al.map a.eval).toArray) (fun _ _ => rfl) (fun ty => ?_), after_d h base (.int _ _)⟩
    rw [hv]
    have := foldl_max P w k ns n
    simpa [Builtin.max_] using this
  · rename_i l heq
    split at he
    case h_2 => cases he
    rename_i k n ns hi
    injection he with he; subst he
    have hv := ints_sound h heq hi
    refine ⟨.int k (ns.foldl imin n), w, C, run _ w (fun ty => Builtin.min_ ⟨_⟩ ty (al.map a.eval).toArray) (fun _ _ => rfl) (fun ty => ?_), after_d h base (.int _ _)⟩
    rw [hv]
    have := foldl_min P w k ns n
    simpa [Builtin.min_] using this
  · rename_i t t' x y heq
    split at he
    case isFalse => cases he
    rename_i htt
    subst htt
    split at he
    case h_2 => cases he
    rename_i xs us hel
    have hl := evs_len heq
    match al, hl, heq with
    | [x0, y0], _, heq =>
      obtain ⟨u, v, h1, h2, h3⟩ := evs_two heq
      injection h1 with h1 h1'; injection h1' with h1' _; subst h1; subst h1'
      have ex := (ev_sound h h2).1
      have ey := (ev_sound h h3).1
      have key : ∀ ty, ∃ v w' C', (Builtin.append_ #[t, t] ty #[a.eval x0, a.eval y0]).run P w = .ok v w' ∧ After B N (Less N base) C st w e v C' w' := fun ty =>
        append_sound hΓ h hN he ex (fun sz hsz => elems_sound h ey hel hsz)
      obtain ⟨v, w', C', r1, r2⟩ := key 0
      exact ⟨v, w', C', run v w' (fun ty => Builtin.append_ #[t, t] ty #[a.eval x0, a.eval y0]) (fun _ _ => rfl) (fun ty => r1), r2⟩
  · cases he

/-- Every operation that is reckoned does in the model what was reckoned. -/
theorem aeff_sound (hΓ : TypesOk P Γ) (o : Op) : Sound P Γ o := by
  intro B N nt C st a w base e h hN he
  cases o with
  | move x => exact sound_move x B N nt C st a w base e h hN he
  | assign x => exact sound_assign x B N nt C st a w base e h hN he
  | pick c x y => exact sound_pick c x y B N nt C st a w base e h hN he
  | alloc t => exact sound_alloc hΓ t B N nt C st a w base e h hN he
  | box t x => exact sound_box t x B N nt C st a w base e h hN he
  | build t parts => exact sound_build hΓ t parts B N nt C st a w base e h hN he
  | buildSlice t n parts => exact sound_buildSlice hΓ t n parts B N nt C st a w base e h hN he
  | load t x => exact sound_load hΓ t x B N nt C st a w base e h hN he
  | store t x y => exact sound_store hΓ t x y B N nt C st a w base e h hN he
  | nilCheck x => exact sound_nilCheck x B N nt C st a w base e h hN he
  | binOp op t x y t' => exact sound_binOp hΓ op t x y t' B N nt C st a w base e h hN he
  | unOp op t x => exact sound_unOp op t x B N nt C st a w base e h hN he
  | convert s t x => exact sound_convert hΓ s t x B N nt C st a w base e h hN he
  | makeFunc fn first caps =>
    cases fn with
    | func f =>
      obtain ⟨l⟩ := first
      cases l with
      | nil => exact sound_makeFunc f caps B N nt C st a w base e h hN he
      | cons y ys => simp [aeff] at he
    | _ => simp [aeff] at he
  | makeSlice t l c => exact sound_makeSlice hΓ t l c B N nt C st a w base e h hN he
  | slice t x lo hi mx =>
    cases mx with
    | none => exact sound_slice hΓ t x lo hi B N nt C st a w base e h hN he
    | some m => simp [aeff] at he
  | fieldAddr t x i => exact sound_fieldAddr hΓ t x i B N nt C st a w base e h hN he
  | field t x i => exact sound_field hΓ t x i B N nt C st a w base e h hN he
  | indexAddr t x i => exact sound_indexAddr hΓ t x i B N nt C st a w base e h hN he
  | index t x i => exact sound_index hΓ t x i B N nt C st a w base e h hN he
  | extract x i => exact sound_extract x i B N nt C st a w base e h hN he
  | range t x => exact sound_range hΓ t x B N nt C st a w base e h hN he
  | next x is => exact sound_next x is B N nt C st a w base e h hN he
  | makeMap t r => exact sound_makeMap hΓ t r B N nt C st a w base e h hN he
  | lookup t x y c => exact sound_lookup hΓ t x y c B N nt C st a w base e h hN he
  | mapUpdate t m x y => exact sound_mapUpdate hΓ t m x y B N nt C st a w base e h hN he
  | call c =>
    obtain ⟨cal, ⟨al⟩, ⟨tl⟩⟩ := c
    cases cal with
    | builtin b => exact sound_builtin hΓ b al tl B N nt C st a w base e h hN he
    | _ => simp [aeff] at he
  | _ => simp [aeff] at he
end
end Go.Eng
