/-
Each operation of the model does what the reckoned effect says: fields, indexes, slices, lengths, loads.
-/
import Derived.Test.YtnnadlpfbfajdaaGreatDoorEngF
namespace Go.Eng
open Go
set_option linter.unusedVariables false
set_option linter.unusedSimpArgs false

section
variable {P : Program} {Γ : Types} {B : Base} {N : Nat → Prop} {nt : Nat} {C : Nat → Option Nat} {st : St} {a : Act} {w : World}

theorem boxes_sound (h : Inv B N nt C st a w) : ∀ {xs : List Operand} {tvs : List TV} {ids : List Nat}, st.evs xs = some tvs → aeff.boxes tvs = some ids → xs.length = ids.length ∧
    ∀ (j : Nat) (id : Nat), ids[j]? = some id → ¬ N id ∧ ∃ b x, C id = some b ∧ xs[j]? = some x ∧ a.eval x = .pointer (some ⟨b, 0, none⟩)
  | [], tvs, ids, he, hb => by simp [St.evs] at he; subst he; simp [aeff.boxes] at hb; subst hb; simp
  | x :: xs, tvs, ids, he, hb => by
    simp only [St.evs] at he
    cases h1 : st.ev x with
    | none => simp [h1] at he
    | some tv =>
      cases h2 : st.evs xs with
      | none => simp [h1, h2] at he
      | some tvs' =>
        simp [h1, h2] at he
        subst he
        unfold aeff.boxes at hb
        split at hb
        · rename_i heq; cases heq
        · rename_i id l heq
          cases heq
          simp only [Option.map_eq_some_iff] at hb
          obtain ⟨ids', hb, rfl⟩ := hb
          obtain ⟨f1, f2⟩ := boxes_sound h h2 hb
          obtain ⟨⟨b, g1, g2⟩, g3⟩ := ev_sound h h1
          refine ⟨by simp [f1], fun j id' hj => ?_⟩
          cases j with
          | zero =>
            simp at hj; subst hj
            exact ⟨g3 id (by simp [TV.refs, T1.refs, Cell.refs]), b, x, g1, rfl, g2⟩
          | succ j => simpa using f2 j id' (by simpa using hj)
        · cases hb

theorem sound_makeFunc (f : FuncId) (caps : Array Operand) : Sound P Γ (.makeFunc (.func f) ⟨[]⟩ caps) := by
  intro B N nt C st a w base e h hN he
  simp only [aeff] at he
  split at he
  case h_2 => cases he
  rename_i vs h1
  simp only [Option.map_eq_some_iff] at he
  obtain ⟨ids, h2, rfl⟩ := he
  obtain ⟨f1, f2⟩ := boxes_sound h h1 h2
  refine ⟨.func (.func f) #[] (caps.map a.eval), w, C, runs_value fun o' ho => by simp [execOp, ho, Instr.makeFunc], after_pure (tv := .c (.fn f ids)) h base ⟨_, rfl, by simpa using f1, fun j id hj => ?_⟩ fun r hr => ?_⟩
  · obtain ⟨_, b, x, g1, g2, g3⟩ := f2 j id hj
    refine ⟨b, g1, ?_⟩
    rw [Array.getElem?_toList] at g2
    simp [g2, g3]
  · obtain ⟨j, hj⟩ := List.getElem?_of_mem (show r ∈ ids from hr)
    exact (f2 j r hj).1

theorem run_fieldPlace {t : TypeId} {i : TypeInfo} {p : Addr} {f : Field} (hi : P.info? f.type = some i) (h0 : i.size ≠ 0) : (fieldPlace p f).run P w = .ok (p.add f.offset) w := by
  simp [fieldPlace, sizeOf, typeInfo, hi, h0]

theorem field_at {l : List (Nat × TypeId)} {fs : Array Field} (h : fs.toList.map (fun f => (f.offset, f.type)) = l) {i off : Nat} {ft : TypeId} (hf : l[i]? = some (off, ft)) :
    ∃ f : Field, fs[i]? = some f ∧ f.offset = off ∧ f.type = ft := by
  subst h
  rw [List.getElem?_map, Option.map_eq_some_iff] at hf
  obtain ⟨f, hf, h1⟩ := hf
  injection h1 with h1 h2
  exact ⟨f, by simpa using hf, h1, h2⟩

theorem add_off (b o n : Nat) : (⟨b, o, none⟩ : Addr).add n = ⟨b, o + n, none⟩ := by unfold Addr.add; split <;> simp_all

theorem sound_fieldAddr (hΓ : TypesOk P Γ) (t : TypeId) (x : Operand) (i : Nat) : Sound P Γ (.fieldAddr t x i) := by
  intro B N nt C st a w base e h hN he
  simp only [aeff] at he
  split at he
  case h_2 => cases he
  rename_i fs c ht h1
  split at he
  case h_2 => cases he
  rename_i foff ft hf
  split at he
  case h_2 => cases he
  rename_i ti hti
  split at he
  case isTrue => cases he
  rename_i hsz
  obtain ⟨_, _, d, _, _, _, _, hu, _, hk, _⟩ := TIok.facts (hΓ.ok t _ ht)
  obtain ⟨flds, rfl, hfl⟩ := kind_struct hk
  obtain ⟨f, hf1, hf2, hf3⟩ := field_at hfl hf
  obtain ⟨fi, _, _, hfi, hfs, _⟩ := TIok.facts (hΓ.ok ft _ hti)
  have run : ∀ (o' : Oper) (p : Addr), o'.op = .fieldAddr t x i → a.eval x = .pointer (some p) → (execOp a.eval o').run P w = .ok (.value (.pointer (some (p.add foff)))) w := fun o' p ho hp => by
    have := run_fieldPlace (P := P) (w := w) (t := t) (p := p) (f := f) (by rw [hf3]; exact hfi) (by rw [hfs]; exact hsz)
    simp [execOp, ho, hp, Instr.fieldAt, run_underlying hu, hf1, Instr.sureAddr, this, hf2]
  obtain ⟨e1, e2⟩ := ev_sound h h1
  split at he
  · injection he with he; subst he
    rename_i id off
    obtain ⟨b, hb, hv⟩ := e1
    exact ⟨_, w, C, runs_value fun o' ho => run o' _ ho hv, after_pure (tv := .c (.box id (off + foff))) h base ⟨b, hb, by rw [add_off]⟩ e2⟩
  · rename_i id j off
    split at he
    case h_2 => cases he
    rename_i oe hl
    injection he with he; subst he
    obtain ⟨b, hb, hv⟩ := e1 oe hl
    refine ⟨_, w, C, runs_value fun o' ho => run o' _ ho hv, after_pure (tv := .c (.ep id j (off + foff))) h base ?_ e2⟩
    intro oe' hl'
    rw [hl] at hl'; cases hl'
    exact ⟨b, hb, by rw [add_off, Nat.add_assoc]⟩
  · injection he with he; subst he
    rename_i cs
    obtain ⟨p, hv, hp, hc⟩ := e1
    refine ⟨_, w, C, runs_value fun o' ho => run o' _ ho hv, after_pure (tv := .c (.cp (cs.drop foff))) h base ⟨p.add foff, rfl, by rw [add_block]; exact hp, fun j x hj => ?_⟩ e2⟩
    rw [List.getElem?_drop] at hj
    obtain ⟨u, hu, hd⟩ := hc _ x hj
    exact ⟨u, by rw [add_add]; exact hu, hd⟩
  · cases he

theorem mkT_sound {R : Cell → Value → Prop} {agg : Bool} {cs : List Cell} {vs : List Value} {tv : TV} (h : mkT agg cs = some tv) (hl : vs.length = cs.length)
    (hr : ∀ (j : Nat) (c : Cell), cs[j]? = some c → ∃ u, vs[j]? = some u ∧ R c u) :
    (agg = true ∧ tv = .v (.agg cs) ∧ TRep R tv (.agg vs.toArray)) ∨ (agg = false ∧ ∃ c u, cs = [c] ∧ vs = [u] ∧ tv = .c c ∧ R c u) := by
  unfold mkT at h
  split at h
  · rename_i ha
    injection h with h; subst h
    exact .inl ⟨ha, rfl, vs.toArray, rfl, by simpa using hl, fun j c hj => by simpa using hr j c hj⟩
  · rename_i ha
    split at h
    · rename_i c
      injection h with h; subst h
      obtain ⟨u, hu, hc⟩ := hr 0 c rfl
      match vs, hl, hu with
      | [v], _, hu => simp at hu; subst hu; exact .inr ⟨by simpa using ha, c, v, rfl, rfl, rfl, hc⟩
    · cases h
theorem mkT_refs {agg : Bool} {cs : List Cell} {tv : TV} (h : mkT agg cs = some tv) : ∀ r ∈ tv.refs, ∃ c ∈ cs, r ∈ c.refs := by
  unfold mkT at h
  split at h
  · injection h with h; subst h; intro r hr; exact List.mem_flatMap.1 hr
  · split at h
    · injection h with h; subst h; intro r hr; exact ⟨_, List.mem_singleton.2 rfl, hr⟩
    · cases h

theorem run_part {P : Program} {t : TypeId} {d : TypeDesc} {b : Bool} {i : TypeInfo} (hu : P.underlying t = some d) (ha : aggOk (some d) b = true) (hi : P.info? t = some i) (cs : Array Value) (off : Nat) (w : World) :
    (part t cs off).run P w = if b then .ok (.agg (cs.extract off (off + i.size))) w else match cs[off]? with
      | some v => .ok v w
      | none => .halt (.stuck "part: no such cell") w := by
  unfold part
  rw [Sem.run_bind, run_isAgg hu ha]
  cases b
  · simp; cases cs[off]? <;> simp
  · simp [sizeOf, typeInfo, hi]

theorem slice_list {α : Type} {vs : List α} {off n : Nat} (j : Nat) : ((vs.drop off).take n)[j]? = if j < n then vs[off + j]? else none := by
  rw [List.getElem?_take]
  split
  · rw [List.getElem?_drop]
  · rfl

theorem sound_field (hΓ : TypesOk P Γ) (t : TypeId) (x : Operand) (i : Nat) : Sound P Γ (.field t x i) := by
  intro B N nt C st a w base e h hN he
  simp only [aeff] at he
  split at he
  case h_2 => cases he
  rename_i fs cs ht h1
  split at he
  case h_2 => cases he
  rename_i foff ft hf
  split at he
  case h_2 => cases he
  rename_i ti hti
  split at he
  case isFalse => cases he
  rename_i hsz
  simp only [Option.map_eq_some_iff] at he
  obtain ⟨tv, hm, rfl⟩ := he
  obtain ⟨_, _, d, _, _, _, _, hu, _, hk, _⟩ := TIok.facts (hΓ.ok t _ ht)
  obtain ⟨flds, rfl, hfl⟩ := kind_struct hk
  obtain ⟨f, hf1, hf2, hf3⟩ := field_at hfl hf
  obtain ⟨fi, _, fd, hfi, hfs, _, _, hfu, _, _, hfa, _⟩ := TIok.facts (hΓ.ok ft _ hti)
  obtain ⟨⟨vs, hv, hl, hc⟩, e2⟩ := ev_sound h h1
  have hrep : ∀ (j : Nat) (c : Cell), ((cs.drop foff).take ti.sz)[j]? = some c → ∃ u, ((vs.toList.drop foff).take ti.sz)[j]? = some u ∧ CRep w (okOf B st C w) C st.own c u := fun j c hj => by
    rw [slice_list] at hj ⊢
    split at hj
    · rename_i hjl
      obtain ⟨u, hu, hr⟩ := hc _ c hj
      exact ⟨u, by rw [if_pos hjl]; simpa using hu, hr⟩
    · cases hj
  have hr : ∀ r ∈ tv.refs, ¬ N r := fun r hr => by
    obtain ⟨c, hc1, hc2⟩ := mkT_refs hm r hr
    exact e2 r (List.mem_flatMap.2 ⟨c, List.mem_of_mem_drop (List.mem_of_mem_take hc1), hc2⟩)
  have run : ∀ o' : Oper, o'.op = .field t x i → (execOp a.eval o').run P w = ((part ft vs foff).run P w).andThen fun v w' => .ok (.value v) w' := fun o' ho => by
    simp [execOp, ho, hv, Instr.field, run_underlying hu, hf1, asAgg, hf2, hf3]
  rcases mkT_sound hm (by simp; omega) hrep with ⟨ha, _, ht⟩ | ⟨ha, c, u, hcs, hvs, rfl, hcu⟩
  · refine ⟨_, w, C, runs_value fun o' ho => ?_, after_pure h base ht hr⟩
    rw [run o' ho, run_part hfu hfa hfi, ha, if_pos rfl, hfs]
    simp only [Result.andThen_ok]
    congr 3
    apply Array.ext'
    simp [List.drop_take, Nat.add_sub_cancel_left]
  · refine ⟨u, w, C, runs_value fun o' ho => ?_, after_pure h base hcu hr⟩
    have hat : vs[foff]? = some u := by
      have h0 : ((vs.toList.drop foff).take ti.sz)[0]? = some u := by rw [hvs]; rfl
      rw [slice_list] at h0
      split at h0
      · simpa using h0
      · cases h0
    rw [run o' ho, run_part hfu hfa hfi, ha]
    simp [hat]
end
end Go.Eng
