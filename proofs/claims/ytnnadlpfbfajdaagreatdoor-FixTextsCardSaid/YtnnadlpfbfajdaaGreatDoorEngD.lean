/-
Each operation of the model does what the reckoned effect says: operations that make or change no memory.
-/
import Derived.Test.YtnnadlpfbfajdaaGreatDoorEngC
import Derived.Laws.Entries
import Derived.Laws.Cells
import Derived.Laws.Slices
namespace Go.Eng
open Go
set_option linter.unusedVariables false
set_option linter.unusedSimpArgs false

theorem TIok.facts {P : Program} {t : TypeId} {ti : TI} (h : TIok P t ti = true) :
    ∃ i z d, P.info? t = some i ∧ i.size = ti.sz ∧ i.bytes = ti.bytes ∧ i.zero = some z ∧ P.underlying t = some d ∧ zcells ti.zero z.cells.toList = true ∧
      kindOk (some d) ti.kind = true ∧ aggOk (some d) ti.agg = true ∧ (ti.agg = false → ∃ v, z.cells = #[v]) ∧ ti.zero.length = ti.sz := by
  unfold TIok at h
  cases hi : P.info? t with
  | none => simp [hi] at h
  | some i =>
    simp only [hi, Bool.and_eq_true, beq_iff_eq] at h
    obtain ⟨⟨⟨⟨⟨h1, h2⟩, h3⟩, h4⟩, h7⟩, h5⟩ := h
    cases hz : i.zero with
    | none => simp [hz] at h5
    | some z =>
      simp only [hz, Bool.and_eq_true] at h5
      cases hu : P.underlying t with
      | none => simp [hu, aggOk] at h4
      | some d =>
        rw [hu] at h3 h4
        refine ⟨i, z, d, rfl, h1, h2, hz, rfl, h5.1, h3, h4, fun hf => ?_, h7⟩
        have h6 := h5.2
        cases z <;> simp_all [Value.cells]

theorem run_isAgg {P : Program} {t : TypeId} {d : TypeDesc} {b : Bool} (hu : P.underlying t = some d) (ha : aggOk (some d) b = true) (w : World) :
    (isAgg t).run P w = .ok b w := by
  cases d <;> simp [isAgg, run_underlying hu, aggOk] at ha ⊢ <;> simp [ha]

section
variable {w : World} {ok : Nat → Prop} {C : Nat → Option Nat} {own : Nat → Option OwnB}

theorem str_rep (s : ByteArray) : DRep w ok (.str s.data.toList) (.string s) := by
  have h := DRep.str (w := w) (ok := ok) s.data.toList
  simpa using h

theorem ccell_sound {v : Value} {c : Cell} (h : ccell v = some c) : CRep w ok C own c v ∧ c.refs = [] := by
  cases v with
  | int k n => simp [ccell] at h; subst h; exact ⟨.int k n, rfl⟩
  | bool b => simp [ccell] at h; subst h; exact ⟨.bool b, rfl⟩
  | string s => simp [ccell] at h; subst h; exact ⟨str_rep s, rfl⟩
  | slice a n c' => cases a <;> cases n <;> cases c' <;> simp [ccell] at h; subst h; exact ⟨rfl, rfl⟩
  | pointer a => cases a <;> simp [ccell] at h; subst h; exact ⟨rfl, rfl⟩
  | nilIface => simp [ccell] at h; subst h; exact ⟨rfl, rfl⟩
  | nilFunc => simp [ccell] at h; subst h; exact ⟨rfl, rfl⟩
  | map r => cases r <;> simp [ccell] at h; subst h; exact ⟨rfl, rfl⟩
  | _ => simp [ccell] at h

theorem ccells_sound : ∀ {vs : List Value} {cs : List Cell}, ccells vs = some cs → vs.length = cs.length ∧ (∀ c ∈ cs, c.refs = []) ∧
    ∀ (j : Nat) (c : Cell), cs[j]? = some c → ∃ u, vs[j]? = some u ∧ CRep w ok C own c u
  | [], cs, h => by simp [ccells] at h; subst h; simp
  | v :: vs, cs, h => by
    simp only [ccells] at h
    cases h1 : ccell v with
    | none => simp [h1] at h
    | some c =>
      cases h2 : ccells vs with
      | none => simp [h1, h2] at h
      | some cs' =>
        simp [h1, h2] at h
        subst h
        obtain ⟨e1, e2⟩ := ccell_sound (w := w) (ok := ok) (C := C) (own := own) h1
        obtain ⟨f1, f2, f3⟩ := ccells_sound h2
        refine ⟨by simp [f1], by simpa [e2] using f2, fun j c hj => ?_⟩
        cases j with
        | zero => simp at hj; subst hj; exact ⟨v, rfl, e1⟩
        | succ j => simpa using f3 j c (by simpa using hj)

theorem cval_sound {v : Value} {tv : TV} (h : cval v = some tv) : TRep (CRep w ok C own) tv v ∧ ∀ r, r ∉ tv.refs := by
  cases v with
  | agg vs =>
    obtain ⟨l⟩ := vs
    simp only [cval, Option.map_eq_some_iff] at h
    obtain ⟨cs, h1, rfl⟩ := h
    obtain ⟨f1, f2, f3⟩ := ccells_sound (w := w) (ok := ok) (C := C) (own := own) h1
    refine ⟨⟨⟨l⟩, rfl, by simpa using f1, fun j c hj => by simpa using f3 j c hj⟩, fun r hr => ?_⟩
    obtain ⟨c, hc, hr'⟩ := List.mem_flatMap.1 (show r ∈ cs.flatMap Cell.refs from hr)
    rw [f2 c hc] at hr'; cases hr'
  | _ =>
    simp only [cval, Option.map_eq_some_iff] at h
    obtain ⟨c, h1, rfl⟩ := h
    obtain ⟨e1, e2⟩ := ccell_sound (w := w) (ok := ok) (C := C) (own := own) h1
    exact ⟨e1, fun r hr => by have : r ∈ c.refs := hr; rw [e2] at this; cases this⟩
end

section
variable {P : Program} {Γ : Types} {B : Base} {N : Nat → Prop} {nt : Nat} {C : Nat → Option Nat} {st : St} {a : Act} {w : World}

theorem ev_sound (h : Inv B N nt C st a w) {x : Operand} {tv : TV} (he : st.ev x = some tv) :
    TRep (CRep w (okOf B st C w) C st.own) tv (a.eval x) ∧ ∀ r ∈ tv.refs, ¬ N r := by
  cases x with
  | tmp t => simp [St.ev] at he; subst he; exact ⟨h.tmp t, fun r hr hn => h.res.t r hn t hr⟩
  | const v => obtain ⟨h1, h2⟩ := cval_sound (w := w) (ok := okOf B st C w) (C := C) (own := st.own) (show cval v = some tv from he); exact ⟨h1, fun r hr => absurd hr (h2 r)⟩
  | global g =>
    simp [St.ev] at he
    obtain ⟨l, hl, rfl⟩ := he
    obtain ⟨h2, h3, h4⟩ := h.badlt.tab g l hl
    have h1 := h4.lt
    have hb : w.heap[g]? = B.w0.heap[g]? := h.fr.block g h1 h3
    refine ⟨⟨⟨g, 0, none⟩, rfl, ⟨Nat.lt_of_lt_of_le h1 h.fr.size, h2, fun id hli hc => ?_⟩, fun j x hj => ?_⟩, fun r hr => by simp [TV.refs, T1.refs, Cell.refs] at hr⟩
    · rcases h.wr id g hli hc with h5 | h5
      · exact h3 h5
      · omega
    · rw [List.getElem?_map, Option.map_eq_some_iff] at hj
      obtain ⟨⟨k, n⟩, hj, rfl⟩ := hj
      refine ⟨.int k n, ?_, .int _ _⟩
      have h5 := h4.cell hj
      have e : (⟨g, 0, none⟩ : Addr).add j = ⟨g, j, none⟩ := by unfold Addr.add; split <;> simp_all
      rw [e]
      exact (cell_congr hb).trans h5
  | func f => simp [St.ev] at he; subst he; exact ⟨⟨#[], rfl, rfl, fun j id hj => by simp at hj⟩, fun r hr => by simp [TV.refs, T1.refs, Cell.refs] at hr⟩

theorem evs_sound (h : Inv B N nt C st a w) : ∀ {xs : List Operand} {tvs : List TV}, st.evs xs = some tvs → xs.length = tvs.length ∧
    ∀ (j : Nat) (tv : TV), tvs[j]? = some tv → ∃ x, xs[j]? = some x ∧ TRep (CRep w (okOf B st C w) C st.own) tv (a.eval x) ∧ ∀ r ∈ tv.refs, ¬ N r
  | [], tvs, he => by simp [St.evs] at he; subst he; simp
  | x :: xs, tvs, he => by
    simp only [St.evs] at he
    cases h1 : st.ev x with
    | none => simp [h1] at he
    | some tv =>
      cases h2 : st.evs xs with
      | none => simp [h1, h2] at he
      | some tvs' =>
        simp [h1, h2] at he
        subst he
        obtain ⟨e1, e2⟩ := evs_sound h h2
        refine ⟨by simp [e1], fun j tv' hj => ?_⟩
        cases j with
        | zero => simp at hj; subst hj; exact ⟨x, rfl, ev_sound h h1⟩
        | succ j => simpa using e2 j tv' (by simpa using hj)

/-- What an operation has made of the world. N': the ids that are still not in use. -/
structure After (B : Base) (N N' : Nat → Prop) (C : Nat → Option Nat) (st : St) (w : World) (e : Eff) (v : Value) (C' : Nat → Option Nat) (w' : World) : Prop where
  mm : Mm B C' (st.mem e) w'
  keep : Keep B N C st w C' (st.mem e) w'
  val : TRep (CRep w' (okOf B (st.mem e) C' w') C' (st.mem e).own) e.v v
  res : Res N' (st.mem e)
  vres : ∀ r ∈ e.v.refs, ¬ N' r
  sub : ∀ id, N' id → N id

def Less (N : Nat → Prop) (base : Nat) : Nat → Prop := fun id => N id ∧ ¬ (base ≤ id ∧ id < base + 1000)

theorem Res.less {M : Nat → Prop} (h : Res N st) (hs : ∀ id, M id → N id) : Res M st :=
  ⟨fun id hi => h.own id (hs id hi), fun id hi => h.box id (hs id hi), fun id hi => h.t id (hs id hi), fun id hi => h.cell id (hs id hi)⟩

/-- An operation's run: a value for the temporary. -/
def Runs (P : Program) (o : Op) (a : Act) (w : World) (v : Value) (w' : World) : Prop :=
  ∀ (o' : Oper), o'.op = o → (execOp a.eval o').run P w = .ok (.value v) w' ∨ ((execOp a.eval o').run P w = .ok .skip w' ∧ v = Go.undef)

theorem runs_value {o : Op} {v : Value} {w' : World} (h : ∀ o' : Oper, o'.op = o → (execOp a.eval o').run P w = .ok (.value v) w') : Runs P o a w v w' := fun o' ho => .inl (h o' ho)

theorem after_pure (h : Inv B N nt C st a w) (base : Nat) {tv : TV} {v : Value} {us : List Nat} (hv : TRep (CRep w (okOf B st C w) C st.own) tv v) (hr : ∀ r ∈ tv.refs, ¬ N r) :
    After B N (Less N base) C st w ⟨tv, [], [], us⟩ v C w :=
  ⟨h.toMm, fun _ _ _ hc => hc, hv, h.res.less fun _ hi => hi.1, fun r hr' hn => hr r hr' hn.1, fun _ hi => hi.1⟩

/-- The statement for one operation. -/
def Sound (P : Program) (Γ : Types) (o : Op) : Prop :=
  ∀ (B : Base) (N : Nat → Prop) (nt : Nat) (C : Nat → Option Nat) (st : St) (a : Act) (w : World) (base : Nat) (e : Eff), Inv B N nt C st a w → (∀ j, j < 1000 → N (base + j)) →
    aeff Γ base o st = some e → ∃ v w' C', Runs P o a w v w' ∧ After B N (Less N base) C st w e v C' w'

theorem sound_move (x : Operand) : Sound P Γ (.move x) := by
  intro B N nt C st a w base e h hN he
  simp only [aeff, Option.map_eq_some_iff] at he
  obtain ⟨tv, h1, rfl⟩ := he
  obtain ⟨h2, h3⟩ := ev_sound h h1
  exact ⟨_, w, C, runs_value fun o' ho => by simp [execOp, ho], after_pure h base h2 h3⟩
theorem sound_assign (x : Operand) : Sound P Γ (.assign x) := by
  intro B N nt C st a w base e h hN he
  simp only [aeff, Option.map_eq_some_iff] at he
  obtain ⟨tv, h1, rfl⟩ := he
  obtain ⟨h2, h3⟩ := ev_sound h h1
  exact ⟨_, w, C, runs_value fun o' ho => by simp [execOp, ho], after_pure h base h2 h3⟩

theorem rep_bool {ok : Nat → Prop} {own : Nat → Option OwnB} {b : Bool} {v : Value} (h : TRep (CRep w ok C own) (.b b) v) : v = .bool b := by
  have h1 : DRep w ok (.bool b) v := h
  cases h1; rfl
theorem rep_int {ok : Nat → Prop} {own : Nat → Option OwnB} {k : IntKind} {n : Int} {v : Value} (h : TRep (CRep w ok C own) (.int k n) v) : v = .int k n := by
  have h1 : DRep w ok (.int k n) v := h
  cases h1; rfl
theorem rep_str {ok : Nat → Prop} {own : Nat → Option OwnB} {s : List UInt8} {v : Value} (h : TRep (CRep w ok C own) (.v (.one (.d (.str s)))) v) : v = .string ⟨s.toArray⟩ := by
  have h1 : DRep w ok (.str s) v := h
  cases h1; rfl

theorem sound_pick (c x y : Operand) : Sound P Γ (.pick c x y) := by
  intro B N nt C st a w base e h hN he
  simp only [aeff] at he
  split at he
  · rename_i cb ab bb h1 h2 h3
    simp only [Option.some.injEq] at he
    subst he
    have e1 := rep_bool (ev_sound h h1).1
    have e2 := rep_bool (ev_sound h h2).1
    have e3 := rep_bool (ev_sound h h3).1
    refine ⟨.bool (bif cb then ab else bb), w, C, runs_value fun o' ho => ?_, after_pure h base (.bool _) (fun r hr => by simp [TV.refs, T1.refs, Cell.refs] at hr)⟩
    cases cb <;> simp [execOp, ho, e1, e2, e3, asBool]
  · rename_i tv h1 h2 _
    simp only [Option.some.injEq] at he
    subst he
    have e1 := rep_bool (ev_sound h h1).1
    obtain ⟨e2, e3⟩ := ev_sound h h2
    exact ⟨_, w, C, runs_value fun o' ho => by simp [execOp, ho, e1, asBool], after_pure h base e2 e3⟩
  · rename_i tv h1 h2 _
    simp only [Option.some.injEq] at he
    subst he
    have e1 := rep_bool (ev_sound h h1).1
    obtain ⟨e2, e3⟩ := ev_sound h h2
    exact ⟨_, w, C, runs_value fun o' ho => by simp [execOp, ho, e1, asBool], after_pure h base e2 e3⟩
  · cases he

theorem ptr_rep {c : Cell} {v : Value} (hp : st.isPtr c = true) (h : CRep w (okOf B st C w) C st.own c v) : ∃ a, v = .pointer (some a) := by
  cases c <;> simp [St.isPtr] at hp
  case box id off => obtain ⟨b, _, hv⟩ := h; exact ⟨_, hv⟩
  case ep id i off =>
    obtain ⟨e, he⟩ := Option.isSome_iff_exists.1 hp
    obtain ⟨b, _, hv⟩ := h e he; exact ⟨_, hv⟩
  case cp cs => obtain ⟨a, hv, _⟩ := h; exact ⟨_, hv⟩
end
end Go.Eng
