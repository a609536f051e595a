/-
Each operation of the model does what the reckoned effect says: loads, lengths, greatest and least.
-/
import Derived.Test.YtnnadlpfbfajdaaGreatDoorEngH
namespace Go.Eng
open Go
set_option linter.unusedVariables false
set_option linter.unusedSimpArgs false

section
variable {P : Program} {Γ : Types} {B : Base} {N : Nat → Prop} {nt : Nat} {C : Nat → Option Nat} {st : St} {a : Act} {w : World}

theorem run_loadVar {t : TypeId} {ti : TI} (hti : TIok P t ti = true) (p : Addr) (vs : List Value) (hl : vs.length = ti.sz) (h : ∀ j v, vs[j]? = some v → w.cell? (p.add j) = some v) :
    (ti.agg = true → (loadVar t p).run P w = .ok (.agg vs.toArray) w) ∧ (ti.agg = false → ∀ v, vs = [v] → (loadVar t p).run P w = .ok v w) := by
  obtain ⟨i, _, d, hi, hs, _, _, hu, _, _, ha, _⟩ := TIok.facts hti
  have hla := run_loadCells_list (P := P) w p vs h
  constructor
  · intro hagg
    rw [hagg] at ha
    unfold loadVar
    rw [Sem.run_bind, run_isAgg hu ha]
    simp [sizeOf, typeInfo, hi, hs, ← hl, hla]
  · intro hagg v hv
    rw [hagg] at ha
    unfold loadVar
    rw [Sem.run_bind, run_isAgg hu ha]
    subst hv
    have := h 0 v rfl
    have e0 : p.add 0 = p := by simp [Addr.add]
    rw [e0] at this
    simp [this]

theorem load_sound {t : TypeId} {ti : TI} (hti : TIok P t ti = true) (h : Inv B N nt C st a w) (base : Nat) {x : Operand} {p : Addr} (hx : a.eval x = .pointer (some p)) {cs : List Cell} {tv : TV} {us : List Nat}
    (hm : mkT ti.agg cs = some tv) (hl : cs.length = ti.sz) (hr : ∀ r ∈ tv.refs, ¬ N r)
    (hc : ∀ (j : Nat) (c : Cell), cs[j]? = some c → ∃ u, w.cell? (p.add j) = some u ∧ CRep w (okOf B st C w) C st.own c u) :
    ∃ v w' C', Runs P (.load t x) a w v w' ∧ After B N (Less N base) C st w ⟨tv, [], [], us⟩ v C' w' := by
  have key : ∃ vs : List Value, vs.length = cs.length ∧ ∀ (j : Nat) (c : Cell), cs[j]? = some c → ∃ u, vs[j]? = some u ∧ w.cell? (p.add j) = some u ∧ CRep w (okOf B st C w) C st.own c u := by
    clear hm hl hr
    have : ∀ n, n ≤ cs.length → ∃ vs : List Value, vs.length = n ∧ ∀ (j : Nat) (c : Cell), j < n → cs[j]? = some c → ∃ u, vs[j]? = some u ∧ w.cell? (p.add j) = some u ∧ CRep w (okOf B st C w) C st.own c u := by
      intro n
      induction n with
      | zero => exact fun _ => ⟨[], rfl, fun j c hj => by omega⟩
      | succ n ih =>
        intro hn
        obtain ⟨vs, h1, h2⟩ := ih (by omega)
        obtain ⟨u, hu1, hu2⟩ := hc n cs[n] (List.getElem?_eq_getElem (by omega))
        refine ⟨vs ++ [u], by simp [h1], fun j c hj hjc => ?_⟩
        by_cases hjn : j = n
        · subst hjn
          rw [List.getElem?_eq_getElem (by omega)] at hjc
          injection hjc with hjc; subst hjc
          exact ⟨u, by rw [List.getElem?_append_right (by omega)]; simp [h1], hu1, hu2⟩
        · obtain ⟨u', hu', h3⟩ := h2 j c (by omega) hjc
          exact ⟨u', by rw [List.getElem?_append_left (by omega)]; exact hu', h3⟩
    obtain ⟨vs, h1, h2⟩ := this cs.length (Nat.le_refl _)
    exact ⟨vs, h1, fun j c hj => h2 j c (List.getElem?_eq_some_iff.1 hj).1 hj⟩
  obtain ⟨vs, hvl, hvc⟩ := key
  have hcell : ∀ j v, vs[j]? = some v → w.cell? (p.add j) = some v := fun j v hj => by
    have hjl : j < cs.length := by rw [← hvl]; exact (List.getElem?_eq_some_iff.1 hj).1
    obtain ⟨u, hu1, hu2, _⟩ := hvc j cs[j] (List.getElem?_eq_getElem hjl)
    rw [hj] at hu1; injection hu1 with hu1; subst hu1; exact hu2
  obtain ⟨r1, r2⟩ := run_loadVar (P := P) (w := w) hti p vs (by omega) hcell
  have run : ∀ v, (loadVar t p).run P w = .ok v w → Runs P (.load t x) a w v w := fun v hv => runs_value fun o' ho => by
    simp [execOp, ho, Instr.loadAt, hx, Instr.sureAddr, hv]
  rcases mkT_sound hm hvl (fun j c hj => by obtain ⟨u, h1, _, h2⟩ := hvc j c hj; exact ⟨u, h1, h2⟩) with ⟨ha, _, ht⟩ | ⟨ha, c, u, hcs, hvs, rfl, hcu⟩
  · exact ⟨_, w, C, run _ (r1 ha), after_pure h base ht hr⟩
  · exact ⟨u, w, C, run _ (r2 ha u hvs), after_pure h base hcu hr⟩

theorem own_block {e : OwnB} {id b : Nat} (h : Inv B N nt C st a w) (ho : st.own id = some e) (hb : C id = some b) :
    0 < e.sz ∧ ∃ arr, w.heap[b]? = some (.cells arr e.et (0, 0)) ∧ e.xs.length * e.sz ≤ arr.size ∧ (∀ cs ∈ e.xs, cs.length = e.sz) ∧
      ∀ (i j : Nat) (cs : List D) (x : D), e.xs[i]? = some cs → cs[j]? = some x → ∃ v, arr[i * e.sz + j]? = some v ∧ DRep w (okOf B st C w) x v := by
  obtain ⟨h0, h1⟩ := h.own id e ho
  refine ⟨h0, ?_⟩
  rcases h1 with ⟨h1, _⟩ | ⟨b', arr, h1, h2, h3⟩
  · rw [hb] at h1; cases h1
  · rw [hb] at h1; cases h1; exact ⟨arr, h2, h3⟩

theorem sound_load (hΓ : TypesOk P Γ) (t : TypeId) (x : Operand) : Sound P Γ (.load t x) := by
  intro B N nt C st a w base e h hN he
  simp only [aeff] at he
  split at he
  · rename_i ti id off ht h1
    split at he
    case h_2 => cases he
    rename_i cs hbx
    split at he
    case isFalse => cases he
    rename_i hlen
    simp only [Option.map_eq_some_iff] at he
    obtain ⟨tv, hm, rfl⟩ := he
    obtain ⟨b, hb, hv⟩ := (ev_sound h h1).1
    obtain ⟨b', arr, et, hb', hh, hsz, _, hc⟩ := (h.box id cs hbx).cells hlen.2
    have hlen := hlen.1
    rw [hb] at hb'; cases hb'
    refine load_sound (hΓ.ok t ti ht) h base hv hm (by simp; omega) ?_ ?_
    · intro r hr hN
      obtain ⟨c, hc1, hc2⟩ := mkT_refs hm r hr
      exact h.res.cell r hN id cs c hbx (List.mem_of_mem_drop (List.mem_of_mem_take hc1)) hc2
    · intro j c hj
      rw [slice_list] at hj
      split at hj
      · obtain ⟨u, hu, hr⟩ := hc _ c hj
        exact ⟨u, by rw [add_off]; simp [World.cell?, hh, hu], hr⟩
      · cases hj
  · rename_i ti id i off ht h1
    split at he
    case h_2 => cases he
    rename_i oe ho
    split at he
    case h_2 => cases he
    rename_i ds hds
    split at he
    case isFalse => cases he
    rename_i hlen
    simp only [Option.map_eq_some_iff] at he
    obtain ⟨tv, hm, rfl⟩ := he
    obtain ⟨b, hb, hv⟩ := (ev_sound h h1).1 oe ho
    obtain ⟨_, arr, hh, _, hls, hc⟩ := own_block h ho hb
    refine load_sound (hΓ.ok t ti ht) h base hv hm (by simp; omega) ?_ ?_
    · intro r hr hN
      obtain ⟨c, hc1, hc2⟩ := mkT_refs hm r hr
      obtain ⟨x, _, rfl⟩ := List.mem_map.1 hc1
      simp [Cell.refs] at hc2
    · intro j c hj
      rw [List.getElem?_map, Option.map_eq_some_iff] at hj
      obtain ⟨x, hj, rfl⟩ := hj
      rw [slice_list] at hj
      split at hj
      · obtain ⟨u, hu, hr⟩ := hc i _ ds x hds hj
        exact ⟨u, by rw [add_off, show i * oe.sz + off + j = i * oe.sz + (off + j) by omega]; simp [World.cell?, hh, hu], hr⟩
      · cases hj
  · rename_i ti ds ht h1
    split at he
    case isFalse => cases he
    rename_i hlen
    simp only [Option.map_eq_some_iff] at he
    obtain ⟨tv, hm, rfl⟩ := he
    obtain ⟨p, hv, hp, hc⟩ := (ev_sound h h1).1
    refine load_sound (hΓ.ok t ti ht) h base hv hm (by simp; omega) ?_ ?_
    · intro r hr hN
      obtain ⟨c, hc1, hc2⟩ := mkT_refs hm r hr
      obtain ⟨x, _, rfl⟩ := List.mem_map.1 hc1
      simp [Cell.refs] at hc2
    · intro j c hj
      rw [List.getElem?_map, Option.map_eq_some_iff] at hj
      obtain ⟨x, hj, rfl⟩ := hj
      have hj' : ds[j]? = some x := by
        rw [List.getElem?_take] at hj
        split at hj
        · exact hj
        · cases hj
      obtain ⟨u, hu, hr⟩ := hc j x hj'
      exact ⟨u, hu, hr⟩
  · cases he

theorem lenOf_sound (h : Inv B N nt C st a w) {x : Operand} {tv : TV} {n : Nat} {us : List Nat} (he : st.ev x = some tv) (hn : lenOf st tv = some (n, us)) :
    ∃ p c, a.eval x = .slice p n c := by
  have e1 := (ev_sound h he).1
  unfold lenOf at hn
  split at hn
  · rename_i xs
    injection hn with hn; injection hn with hn; subst hn
    have e2 : DRep w (okOf B st C w) (.lst xs) (a.eval x) := e1
    cases hv : a.eval x <;> rw [hv] at e2 <;> cases e2
    · exact ⟨_, _, rfl⟩
    · exact ⟨_, _, rfl⟩
  · injection hn with hn; injection hn with hn; subst hn; exact ⟨_, _, e1⟩
  · rename_i id p
    simp only [Option.map_eq_some_iff] at hn
    obtain ⟨e, ho, hn⟩ := hn
    injection hn with hn; subst hn
    rcases e1 with ⟨_, h2, h3⟩ | ⟨b, len, c, _, h2, _, _, h4⟩
    · exact ⟨_, _, by rw [h2, h3 e ho]⟩
    · exact ⟨_, _, by rw [h2, (h4 e ho).1]⟩
  · rename_i id lo m
    simp only [Option.map_eq_some_iff] at hn
    obtain ⟨e, ho, hn⟩ := hn
    injection hn with hn; subst hn
    obtain ⟨p, c, hv, _⟩ := e1 e ho
    exact ⟨p, c, hv⟩
  · cases hn

theorem evs_one {x : Operand} {xs : List Operand} {l : List TV} (h : st.evs (x :: xs) = some l) : ∃ tv l', l = tv :: l' ∧ st.ev x = some tv ∧ st.evs xs = some l' := by
  simp only [St.evs] at h
  cases h1 : st.ev x with
  | none => simp [h1] at h
  | some tv =>
    cases h2 : st.evs xs with
    | none => simp [h1, h2] at h
    | some l' => simp [h1, h2] at h; exact ⟨tv, l', h.symm, rfl, rfl⟩

theorem ints_sound (h : Inv B N nt C st a w) : ∀ {xs : List Operand} {l : List TV} {k : IntKind} {ns : List Int}, st.evs xs = some l → ints l = some (k, ns) → xs.map a.eval = ns.map (Value.int k)
  | [], l, k, ns, he, hi => by simp [St.evs] at he; subst he; simp [ints] at hi
  | x :: xs, l, k, ns, he, hi => by
    obtain ⟨tv, l', rfl, h1, h2⟩ := evs_one he
    unfold ints at hi
    split at hi
    · rename_i k' n heq
      injection heq with heq1 heq2
      subst heq1; subst heq2
      injection hi with hi; injection hi with hi1 hi2; subst hi1; subst hi2
      cases xs with
      | nil => simp [rep_int (ev_sound h h1).1]
      | cons y ys => obtain ⟨_, _, h3, _⟩ := evs_one h2; cases h3
    · rename_i k' n l'' _ heq
      injection heq with heq1 heq2
      subst heq1; subst heq2
      split at hi
      · rename_i k'' ns' hl
        split at hi
        · rename_i hkk
          injection hi with hi; injection hi with hi1 hi2; subst hi1; subst hi2
          subst hkk
          simp [rep_int (ev_sound h h1).1, ints_sound h h2 hl]
        · cases hi
      · cases hi
    · cases hi

theorem foldl_max (P : Program) (w : World) (k : IntKind) : ∀ (ns : List Int) (n : Int), ((ns.map (Value.int k)).foldlM Builtin.max2 (.int k n)).run P w = .ok (.int k (ns.foldl imax n)) w
  | [], n => by simp
  | m :: ns, n => by
    simp only [List.map_cons, List.foldlM_cons, Sem.run_bind, List.foldl_cons]
    have : (Builtin.max2 (.int k n) (.int k m)).run P w = .ok (.int k (imax n m)) w := by simp [Builtin.max2, imax]
    rw [this, Result.andThen_ok, foldl_max P w k ns]
theorem foldl_min (P : Program) (w : World) (k : IntKind) : ∀ (ns : List Int) (n : Int), ((ns.map (Value.int k)).foldlM Builtin.min2 (.int k n)).run P w = .ok (.int k (ns.foldl imin n)) w
  | [], n => by simp
  | m :: ns, n => by
    simp only [List.map_cons, List.foldlM_cons, Sem.run_bind, List.foldl_cons]
    have : (Builtin.min2 (.int k n) (.int k m)).run P w = .ok (.int k (imin n m)) w := by simp [Builtin.min2, imin]
    rw [this, Result.andThen_ok, foldl_min P w k ns]

end
end Go.Eng
