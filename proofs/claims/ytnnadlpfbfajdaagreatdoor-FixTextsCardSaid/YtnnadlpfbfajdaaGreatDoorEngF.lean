/-
Each operation of the model does what the reckoned effect says: operators, fields, indexes, slices.
-/
import Derived.Test.YtnnadlpfbfajdaaGreatDoorEngE
namespace Go.Eng
open Go
set_option linter.unusedVariables false
set_option linter.unusedSimpArgs false

section
variable {P : Program} {Γ : Types} {B : Base} {N : Nat → Prop} {nt : Nat} {C : Nat → Option Nat} {st : St} {a : Act} {w : World}

theorem one_refs_d {x : D} {M : Nat → Prop} : ∀ r ∈ (TV.c (.d x)).refs, ¬ M r := fun r hr => by simp [TV.refs, T1.refs, Cell.refs] at hr

theorem after_d (h : Inv B N nt C st a w) (base : Nat) {x : D} {v : Value} {us : List Nat} (hv : DRep w (okOf B st C w) x v) : After B N (Less N base) C st w ⟨.c (.d x), [], [], us⟩ v C w :=
  after_pure h base hv one_refs_d

theorem equalIn_ptr_nil (k : Nat) (t e : TypeId) (hu : P.underlying t = some (.pointer e)) (b : Option Addr) : (Op.equalIn (k + 1) t (.pointer none) (.pointer b)).run P w = .ok b.isNone w := by
  simp only [Op.equalIn, Sem.run_bind, run_underlying hu, Result.andThen_ok]
  rfl
theorem equalIn_ptr_nil' (k : Nat) (t e : TypeId) (hu : P.underlying t = some (.pointer e)) (a : Addr) : (Op.equalIn (k + 1) t (.pointer (some a)) (.pointer none)).run P w = .ok false w := by
  simp only [Op.equalIn, Sem.run_bind, run_underlying hu, Result.andThen_ok]
  rfl
theorem equal_ptr_nil (t e : TypeId) (hu : P.underlying t = some (.pointer e)) (b : Option Addr) : (Op.equal t (.pointer none) (.pointer b)).run P w = .ok b.isNone w := equalIn_ptr_nil 9999 t e hu b
theorem equal_ptr_nil' (t e : TypeId) (hu : P.underlying t = some (.pointer e)) (a : Addr) : (Op.equal t (.pointer (some a)) (.pointer none)).run P w = .ok false w := equalIn_ptr_nil' 9999 t e hu a

theorem ptr_eql (t e : TypeId) (hu : P.underlying t = some (.pointer e)) (o1 o2 : Operand) (a b : Option Addr) (hn : a = none ∨ b = none) :
    (do eqGuard .eql t o1 o2 (.pointer a) (.pointer b); binOp .eql t (.pointer a) (.pointer b) : Sem Value).run P w = .ok (.bool (a.isNone && b.isNone)) w ∧
    (do eqGuard .neq t o1 o2 (.pointer a) (.pointer b); binOp .neq t (.pointer a) (.pointer b) : Sem Value).run P w = .ok (.bool (!(a.isNone && b.isNone))) w := by
  have h : (Op.equal t (.pointer a) (.pointer b)).run P w = .ok (a.isNone && b.isNone) w := by
    rcases hn with rfl | rfl
    · rw [equal_ptr_nil t e hu]; simp
    · cases a with
      | none => rw [equal_ptr_nil t e hu]; simp
      | some a => rw [equal_ptr_nil' t e hu]; simp
  constructor
  · simp only [eqGuard_at_pointer, Sem.run_bind, Sem.run_pure, Result.andThen_ok]
    show (do pure (.bool (← Op.equal t (.pointer a) (.pointer b))) : Sem Value).run P w = _
    rw [Sem.run_bind, h]; rfl
  · simp only [eqGuard_at_pointer, Sem.run_bind, Sem.run_pure, Result.andThen_ok]
    show (do pure (.bool (!(← Op.equal t (.pointer a) (.pointer b)))) : Sem Value).run P w = _
    rw [Sem.run_bind, h]; rfl

theorem sound_binOp (hΓ : TypesOk P Γ) (op : BinOp) (t : TypeId) (x y : Operand) (t' : TypeId) : Sound P Γ (.binOp op t x y t') := by
  intro B N nt C st a w base e h hN he
  simp only [aeff] at he
  split at he
  case h_2 => cases he
  rename_i ti ca cb ht h1 h2
  simp only [Option.map_eq_some_iff] at he
  obtain ⟨c, hc, rfl⟩ := he
  have e1 : CRep w (okOf B st C w) C st.own ca (a.eval x) := (ev_sound h h1).1
  have e2 : CRep w (okOf B st C w) C st.own cb (a.eval y) := (ev_sound h h2).1
  obtain ⟨i, z, d, hi, _, _, _, hu, _, hk, _⟩ := (hΓ.ok t ti ht : TIok P t ti = true) |> TIok.facts
  have run : ∀ o' : Oper, o'.op = .binOp op t x y t' → ∀ v, (do eqGuard op t x y (a.eval x) (a.eval y); binOp op t (a.eval x) (a.eval y) : Sem Value).run P w = .ok v w →
      (execOp a.eval o').run P w = .ok (.value v) w := fun o' ho v hv => by
    simp only [execOp, ho]
    rw [Sem.run_bind, hv]; rfl
  have bools : ∀ {b : Bool} {p q : Option Addr}, a.eval x = .pointer p → a.eval y = .pointer q → (p = none ∨ q = none) → (op = .eql ∧ b = (p.isNone && q.isNone)) ∨ (op = .neq ∧ b = !(p.isNone && q.isNone)) → ti.kind = .ptr →
      ∃ v w' C', Runs P (.binOp op t x y t') a w v w' ∧ After B N (Less N base) C st w ⟨.c (.d (.bool b)), [], [], ca.refs ++ cb.refs⟩ v C' w' := by
    intro b p q hp hq hn ho hkd
    rw [hkd] at hk
    obtain ⟨e, rfl⟩ := kind_ptr hk
    obtain ⟨r1, r2⟩ := ptr_eql (P := P) (w := w) t e hu x y p q hn
    refine ⟨.bool b, w, C, runs_value fun o' ho' => run o' ho' _ ?_, after_d h base (.bool b)⟩
    rw [hp, hq]
    rcases ho with ⟨rfl, rfl⟩ | ⟨rfl, rfl⟩
    · exact r1
    · exact r2
  unfold abinC at hc
  split at hc
  · rename_i da db
    have hd : (abin op da db).map Cell.d = some c ∧ ∀ b, da = .bool b → ti.kind = .bool := by
      revert hc
      cases da <;> simp
      cases ti.kind <;> simp
    obtain ⟨hd, hb⟩ := hd
    simp only [Option.map_eq_some_iff] at hd
    obtain ⟨z, hz, rfl⟩ := hd
    obtain ⟨r, hr, hrun⟩ := abin_sound (P := P) hz e1 e2 t x y (fun b b' hx _ => by
      have hkb := hb b hx
      rw [hkb] at hk
      rw [hu, kind_bool hk])
    exact ⟨r, w, C, runs_value fun o' ho => run o' ho r hrun, after_d h base hr⟩
  · split at hc
    · rename_i hkd
      split at hc
      · injection hc with hc; subst hc
        exact bools e1 e2 (.inl rfl) (.inl ⟨rfl, rfl⟩) hkd
      · split at hc
        · rename_i hp
          injection hc with hc; subst hc
          obtain ⟨q, hq⟩ := ptr_rep hp e2
          exact bools e1 hq (.inl rfl) (.inl ⟨rfl, rfl⟩) hkd
        · cases hc
      · split at hc
        · rename_i hp
          injection hc with hc; subst hc
          obtain ⟨q, hq⟩ := ptr_rep hp e1
          exact bools hq e2 (.inr rfl) (.inl ⟨rfl, rfl⟩) hkd
        · cases hc
      · cases hc
    · rename_i hkd
      split at hc
      · injection hc with hc; subst hc
        exact bools e1 e2 (.inl rfl) (.inr ⟨rfl, rfl⟩) hkd
      · split at hc
        · rename_i hp
          injection hc with hc; subst hc
          obtain ⟨q, hq⟩ := ptr_rep hp e2
          exact bools e1 hq (.inl rfl) (.inr ⟨rfl, rfl⟩) hkd
        · cases hc
      · split at hc
        · rename_i hp
          injection hc with hc; subst hc
          obtain ⟨q, hq⟩ := ptr_rep hp e1
          exact bools hq e2 (.inr rfl) (.inr ⟨rfl, rfl⟩) hkd
        · cases hc
      · cases hc
    · cases hc

theorem sound_unOp (op : UnOp) (t : TypeId) (x : Operand) : Sound P Γ (.unOp op t x) := by
  intro B N nt C st a w base e h hN he
  simp only [aeff] at he
  split at he
  case h_2 => cases he
  rename_i d h1
  simp only [Option.map_eq_some_iff] at he
  obtain ⟨c, hc, rfl⟩ := he
  have e1 : DRep w (okOf B st C w) d (a.eval x) := (ev_sound h h1).1
  cases d with
  | int k n =>
    have e2 := drep_int e1
    cases op <;> simp only [aun, Option.some.injEq] at hc <;> cases hc
    · exact ⟨_, w, C, runs_value fun o' ho => by simp [execOp, ho, e2, Op.unary, Op.intArith], after_d h base (.int _ _)⟩
    · exact ⟨_, w, C, runs_value fun o' ho => by simp [execOp, ho, e2, Op.unary, Op.intBits, ibits], after_d h base (.int _ _)⟩
  | bool b =>
    have e2 := drep_bool e1
    cases op <;> simp only [aun, Option.some.injEq] at hc <;> cases hc
    exact ⟨_, w, C, runs_value fun o' ho => by simp [execOp, ho, e2, Op.unary], after_d h base (.bool _)⟩
  | _ => simp [aun] at hc

theorem sound_convert (hΓ : TypesOk P Γ) (s t : TypeId) (x : Operand) : Sound P Γ (.convert s t x) := by
  intro B N nt C st a w base e h hN he
  simp only [aeff] at he
  split at he
  case h_2 => cases he
  rename_i tis htis
  obtain ⟨_, _, ds, _, _, _, _, hs, _⟩ := TIok.facts (hΓ.ok s _ htis)
  split at he
  · rename_i k _ n ht h1
    injection he with he; subst he
    have e1 := rep_int (ev_sound h h1).1
    obtain ⟨i, z, d, hi, _, _, _, hu, _, hk, _⟩ := TIok.facts (hΓ.ok t _ ht)
    rw [kind_int hk] at hu
    refine ⟨_, w, C, runs_value fun o' ho => ?_, after_d h base (.int _ _)⟩
    simp only [execOp, ho, e1, convert, Sem.run_bind, run_underlying hs, run_underlying hu, Result.andThen_ok]
    cases ds <;> simp [Conv.intToInt]
  · rename_i s' ht h1
    injection he with he; subst he
    have e1 := rep_str (ev_sound h h1).1
    obtain ⟨i, z, d, hi, _, _, _, hu, _, hk, _⟩ := TIok.facts (hΓ.ok t _ ht)
    rw [kind_str hk] at hu
    refine ⟨_, w, C, runs_value fun o' ho => ?_, after_d h base (.str _)⟩
    simp only [execOp, ho, e1, convert, Sem.run_bind, run_underlying hs, run_underlying hu, Result.andThen_ok]
    cases ds <;> simp
  · rename_i k n ht h1
    injection he with he; subst he
    have e1 := rep_int (ev_sound h h1).1
    obtain ⟨i, z, d, hi, _, _, _, hu, _, hk, _⟩ := TIok.facts (hΓ.ok t _ ht)
    rw [kind_str hk] at hu
    refine ⟨.string (Utf8.encode n), w, C, runs_value fun o' ho => ?_, after_d h base (.str (runeS n))⟩
    simp only [execOp, ho, e1, convert, Sem.run_bind, run_underlying hs, run_underlying hu, Result.andThen_ok]
    cases ds <;> simp [Conv.intToString]
  · cases he

theorem sound_extract (x : Operand) (i : Nat) : Sound P Γ (.extract x i) := by
  intro B N nt C st a w base e h hN he
  simp only [aeff] at he
  split at he
  case h_2 => cases he
  rename_i xs h1
  simp only [Option.map_eq_some_iff] at he
  obtain ⟨t, ht, rfl⟩ := he
  obtain ⟨⟨vs, e2, _, e3⟩, hr⟩ := ev_sound h h1
  obtain ⟨u, hu, hrep⟩ := e3 i t ht
  refine ⟨u, w, C, runs_value fun o' ho => ?_, after_pure (tv := .v t) h base hrep fun r hr' => hr r (List.mem_flatMap.2 ⟨t, List.mem_of_getElem? ht, hr'⟩)⟩
  simp [execOp, ho, e2, Instr.extract, hu]

theorem sound_nilCheck (x : Operand) : Sound P Γ (.nilCheck x) := by
  intro B N nt C st a w base e h hN he
  simp only [aeff] at he
  split at he
  case h_2 => cases he
  rename_i c h1
  split at he
  case isFalse => cases he
  rename_i hp
  injection he with he; subst he
  obtain ⟨e1, e2⟩ := ev_sound h h1
  obtain ⟨p, hp⟩ := ptr_rep hp e1
  exact ⟨_, w, C, runs_value fun o' ho => by simp [execOp, ho, hp], after_pure h base (hp ▸ e1) e2⟩
end
end Go.Eng
