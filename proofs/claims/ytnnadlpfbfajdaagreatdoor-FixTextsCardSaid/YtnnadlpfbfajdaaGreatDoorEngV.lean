/-
Comparison of structs; two functions without a body.
-/
import Derived.Test.YtnnadlpfbfajdaaGreatDoorEngU
import Derived.Laws.StructEq
import Derived.Lib.Bytealg
namespace Go.Eng
open Go
set_option linter.unusedVariables false
set_option linter.unusedSimpArgs false

def eqFs (P : Program) (rec : TypeId → List D → List D → Option Bool) : List Field → List D → List D → Option Bool
  | [], _, _ => some true
  | f :: fs, xs, ys => if f.name = "_" then none else match P.info? f.type with
    | some i => match rec f.type ((xs.drop f.offset).take i.size) ((ys.drop f.offset).take i.size), eqFs P rec fs xs ys with
      | some b, some c => some (b && c)
      | _, _ => none
    | none => none
/-- Whether two values of a type are the same. -/
def eqS (P : Program) : Nat → TypeId → List D → List D → Option Bool
  | 0, _, _, _ => none
  | d + 1, t, xs, ys => match P.underlying t with
    | some (.struct fs) => if P.stoodInHeld t then none else eqFs P (eqS P d) fs.toList xs ys
    | some (.int _) => match xs, ys with
      | [.int k a], [.int k' b] => if k = k' then some (decide (a = b)) else none
      | _, _ => none
    | some .bool => match xs, ys with
      | [.bool a], [.bool b] => some (a == b)
      | _, _ => none
    | some .string => match xs, ys with
      | [.str a], [.str b] => some (decide (a = b))
      | _, _ => none
    | _ => none

section
variable {P : Program} {Γ : Types} {w : World} {ok : Nat → Prop}

def Reps (w : World) (ok : Nat → Prop) (xs : List D) (vs : Array Value) : Prop := ∀ (j : Nat) (x : D), xs[j]? = some x → ∃ u, vs[j]? = some u ∧ DRep w ok x u
/-- A value of a type, by its cells. -/
def VR (P : Program) (w : World) (ok : Nat → Prop) (t : TypeId) (xs : List D) (v : Value) : Prop :=
  match P.underlying t with
  | some (.struct _) => ∃ vs, v = .agg vs ∧ Reps w ok xs vs
  | _ => ∃ x, xs = [x] ∧ DRep w ok x v

theorem reps_sub {xs : List D} {vs : Array Value} {off n : Nat} (h : Reps w ok xs vs) : Reps w ok ((xs.drop off).take n) (vs.extract off (off + n)) := by
  intro j x hj
  rw [List.getElem?_take] at hj
  split at hj
  · rename_i hlt
    rw [List.getElem?_drop] at hj
    obtain ⟨u, hu, hd⟩ := h _ x hj
    refine ⟨u, ?_, hd⟩
    have hsz : off + j < vs.size := (Array.getElem?_eq_some_iff.1 hu).1
    rw [Array.getElem?_extract]
    rw [if_pos (by omega)]
    exact hu
  · cases hj

theorem run_part' {t : TypeId} {i : TypeInfo} {d : TypeDesc} {xs : List D} {vs : Array Value} {off : Nat} (hi : P.info? t = some i) (hu : P.underlying t = some d) (h : Reps w ok xs vs)
    (hd : (∃ fs, d = .struct fs) ∨ ((∀ fs, d ≠ .struct fs) ∧ (∀ n e, d ≠ .array n e) ∧ ∃ x, (xs.drop off).take i.size = [x])) :
    ∃ u, (part t vs off).run P w = .ok u w ∧ VR P w ok t ((xs.drop off).take i.size) u := by
  rcases hd with ⟨fs, rfl⟩ | ⟨h1, h2, x, hx⟩
  · refine ⟨.agg (vs.extract off (off + i.size)), ?_, ?_⟩
    · unfold part
      rw [Sem.run_bind, show (isAgg t).run P w = .ok true w by simp [isAgg, run_underlying hu]]
      simp [sizeOf, typeInfo, hi]
    · unfold VR; rw [hu]; exact ⟨_, rfl, reps_sub h⟩
  · have hx0 : xs[off]? = some x := by
      have := congrArg (·[0]?) hx
      simp only [List.getElem?_take, List.getElem?_drop, Nat.add_zero] at this
      split at this
      · simpa using this
      · simp at this
    obtain ⟨u, hu1, hu2⟩ := h off x hx0
    have hag : (isAgg t).run P w = .ok false w := by
      cases d <;> simp [isAgg, run_underlying hu]
      · exact absurd rfl (h2 _ _)
      · exact absurd rfl (h1 _)
    refine ⟨u, ?_, ?_⟩
    · unfold part
      rw [Sem.run_bind, hag]
      simp [hu1]
    · unfold VR
      rw [hu]
      cases d <;> first | exact absurd rfl (h1 _) | exact ⟨x, hx, hu2⟩

theorem eqS_ty {d : Nat} {t : TypeId} {xs ys : List D} {b : Bool} (h : eqS P d t xs ys = some b) : ∃ de, P.underlying t = some de ∧ ((∃ fs, de = .struct fs) ∨ ((∀ fs, de ≠ .struct fs) ∧ (∀ n e, de ≠ .array n e) ∧ (∃ x, xs = [x]) ∧ ∃ y, ys = [y])) := by
  cases d with
  | zero => simp [eqS] at h
  | succ d =>
    simp only [eqS] at h
    cases hu : P.underlying t with
    | none => rw [hu] at h; cases h
    | some de =>
      rw [hu] at h
      refine ⟨de, rfl, ?_⟩
      cases de with
      | struct fs => exact .inl ⟨fs, rfl⟩
      | int k =>
        simp only at h
        split at h
        · exact .inr ⟨by simp, by simp, ⟨_, rfl⟩, ⟨_, rfl⟩⟩
        · cases h
      | bool =>
        simp only at h
        split at h
        · exact .inr ⟨by simp, by simp, ⟨_, rfl⟩, ⟨_, rfl⟩⟩
        · cases h
      | string =>
        simp only at h
        split at h
        · exact .inr ⟨by simp, by simp, ⟨_, rfl⟩, ⟨_, rfl⟩⟩
        · cases h
      | _ => simp at h

theorem eqFs_sound {d n : Nat} (ih : ∀ (t : TypeId) (xs ys : List D) (b : Bool), eqS P d t xs ys = some b → ∀ vx vy, VR P w ok t xs vx → VR P w ok t ys vy → (Op.equalIn n t vx vy).run P w = .ok b w) {xs ys : List D} {vs ws : Array Value}
    (hx : Reps w ok xs vs) (hy : Reps w ok ys ws) : ∀ (fs : List Field) (b : Bool), eqFs P (eqS P d) fs xs ys = some b → (Op.eqFields n vs ws fs).run P w = .ok b w
  | [], b, h => by simp [eqFs] at h; subst h; simp [Op.eqFields]
  | f :: fs, b, h => by
    simp only [eqFs] at h
    split at h
    · cases h
    · rename_i hname
      cases hi : P.info? f.type with
      | none => rw [hi] at h; cases h
      | some i =>
        rw [hi] at h
        simp only at h
        split at h
        · rename_i b1 c1 h1 h2
          injection h with h; subst h
          obtain ⟨de, hu, hty⟩ := eqS_ty h1
          obtain ⟨u, hu1, hu2⟩ := run_part' (off := f.offset) hi hu hx (hty.imp id fun ⟨g1, g2, g3, _⟩ => ⟨g1, g2, g3⟩)
          obtain ⟨v, hv1, hv2⟩ := run_part' (off := f.offset) hi hu hy (hty.imp id fun ⟨g1, g2, _, g3⟩ => ⟨g1, g2, g3⟩)
          have := ih _ _ _ _ h1 u v hu2 hv2
          simp only [Op.eqFields, ne_eq, hname, not_false_eq_true, if_true, Sem.run_bind, hu1, hv1, this, Result.andThen_ok]
          cases b1 with
          | false => simp
          | true =>
            simp only [Bool.not_true, Bool.false_eq_true, if_false, Bool.true_and]
            exact eqFs_sound ih hx hy fs c1 h2
        · cases h

theorem eqS_sound : ∀ (d : Nat) (t : TypeId) (xs ys : List D) (b : Bool), eqS P d t xs ys = some b → ∀ n, d ≤ n → ∀ vx vy, VR P w ok t xs vx → VR P w ok t ys vy → (Op.equalIn n t vx vy).run P w = .ok b w
  | 0, _, _, _, _, h, _, _, _, _, _, _ => by simp [eqS] at h
  | d + 1, t, xs, ys, b, h, n, hn, vx, vy, hx, hy => by
    obtain ⟨n, rfl⟩ : ∃ m, n = m + 1 := ⟨n - 1, by omega⟩
    simp only [eqS] at h
    unfold VR at hx hy
    cases hu : P.underlying t with
    | none => rw [hu] at h; cases h
    | some de =>
      rw [hu] at h hx hy
      cases de with
      | struct fs =>
        simp only at h hx hy
        split at h
        · cases h
        · rename_i hst
          obtain ⟨vs, rfl, hvs⟩ := hx
          obtain ⟨ws, rfl, hws⟩ := hy
          have hf : P.fieldsOf t = fs := by simp [Program.fieldsOf, hu]
          rw [run_equalIn_struct w n t vs ws (by rw [hf, hu]) (by simpa using hst), hf]
          exact eqFs_sound (fun t xs ys b h vx vy => eqS_sound d t xs ys b h n (by omega) vx vy) hvs hws fs.toList b h
      | int k =>
        simp only at h hx hy
        obtain ⟨x, rfl, hx⟩ := hx
        obtain ⟨y, rfl, hy⟩ := hy
        split at h
        · rename_i k1 a1 k2 b1 h1 h2
          cases h1; cases h2
          split at h
          · rename_i hkk
            subst hkk
            cases hx; cases hy
            injection h with h; subst h
            rw [run_equalIn_int w n t k1 k a1 b1 hu]
            rfl
          · cases h
        · cases h
      | bool =>
        simp only at h hx hy
        obtain ⟨x, rfl, hx⟩ := hx
        obtain ⟨y, rfl, hy⟩ := hy
        split at h
        · rename_i a1 b1 h1 h2
          cases h1; cases h2; cases hx; cases hy
          injection h with h; subst h
          exact run_equalIn_bool w n t a1 b1 hu
        · cases h
      | string =>
        simp only at h hx hy
        obtain ⟨x, rfl, hx⟩ := hx
        obtain ⟨y, rfl, hy⟩ := hy
        split at h
        · rename_i a1 b1 h1 h2
          cases h1; cases h2; cases hx; cases hy
          injection h with h; subst h
          rw [run_equalIn_string w n t _ _ hu]
          simp only [ByteArray.toList_eq]
          congr 1
          by_cases h : a1 = b1 <;> simp [h]
        · cases h
      | _ => simp at h
end

section
variable {P : Program} {Γ : Types} {st : St} {o : Oper} {base : Nat} {ops : Array Oper} {U : List Nat} {V : St → Prop}

theorem agg_reps {w : World} {ok : Nat → Prop} {C : Nat → Option Nat} {own : Nat → Option OwnB} {xs : List D} {v : Value} (h : TRep (CRep w ok C own) (.v (.agg (xs.map .d))) v) : ∃ vs, v = .agg vs ∧ Reps w ok xs vs := by
  obtain ⟨vs, e, h1, h2⟩ := h
  exact ⟨vs, e, fun j x hj => h2 j (.d x) (by rw [List.getElem?_map, hj]; rfl)⟩

/-- Two structs are compared. -/
theorem does_eqS {op : BinOp} {t t' : TypeId} {x y : Operand} {xs ys : List D} {b c : Bool} (ho : o.op = .binOp op t x y t') (hop : (op = .eql ∧ c = b) ∨ (op = .neq ∧ c = !b)) (hx : st.ev x = some (.v (.agg (xs.map .d)))) (hy : st.ev y = some (.v (.agg (ys.map .d))))
    (hg : P.eqGuardType P.depth t = false) (hs : (P.underlying t).isSome = true) (h : eqS P 100 t xs ys = some b) (hst : ((P.fieldsOf t).size == 0) = false) : Does P o base st ⟨.b c, [], [], []⟩ := by
  intro B N nt C a w K Q hi hN hK
  obtain ⟨vs, hvs, hrs⟩ := agg_reps (ev_sound hi hx).1
  obtain ⟨ws, hws, hrw⟩ := agg_reps (ev_sound hi hy).1
  have hstr : ∃ fs, P.underlying t = some (.struct fs) := by
    unfold Program.fieldsOf at hst
    split at hst
    · exact ⟨_, by assumption⟩
    · simp at hst
  obtain ⟨fs, hfs⟩ := hstr
  have hrun := eqS_sound (P := P) (w := w) (ok := okOf B st C w) 100 t xs ys b h 10000 (by omega) (.agg vs) (.agg ws) (by unfold VR; rw [hfs]; exact ⟨vs, rfl, hrs⟩) (by unfold VR; rw [hfs]; exact ⟨ws, rfl, hrw⟩)
  have hexec : (execOp a.eval o).run P w = .ok (.value (.bool c)) w := by
    simp only [execOp, ho, hvs, hws]
    rcases hop with ⟨rfl, rfl⟩ | ⟨rfl, rfl⟩
    · rw [Sem.run_bind, Sem.run_bind, run_eqGuard_agg w _ t x y vs ws hg, Result.andThen_ok, run_eql_struct, hrun]
      rfl
    · rw [Sem.run_bind, Sem.run_bind, run_eqGuard_agg w _ t x y vs ws hg, Result.andThen_ok, run_neq_struct, hrun]
      rfl
  unfold Oper.wp
  rw [hexec]
  exact hK _ w C (after_pure (us := []) hi base (tv := .b c) (DRep.bool c) (fun r hr => by simp [TV.refs, T1.refs, Cell.refs] at hr))


theorem stable_eqS {op : BinOp} {t t' : TypeId} {x y : Operand} {xs ys : List D} {b c : Bool} (ho : o.op = .binOp op t x y t') (hop : (op = .eql ∧ c = b) ∨ (op = .neq ∧ c = !b)) (hx : st.ev x = some (.v (.agg (xs.map .d)))) (hy : st.ev y = some (.v (.agg (ys.map .d))))
    (hg : P.eqGuardType P.depth t = false) (hs : (P.underlying t).isSome = true) (h : eqS P 100 t xs ys = some b) (hst : ((P.fieldsOf t).size == 0) = false) : Stable V P ops o base st ⟨.b c, [], [], []⟩ U := by
  intro σ hσ _
  have hev := agree_ev hσ
  exact does_eqS ho hop ((hev x (by rw [ho]; simp [Op.operands])).trans hx) ((hev y (by rw [ho]; simp [Op.operands])).trans hy) hg hs h hst

/-! ### Functions without a body -/
theorem does_ext {g : FuncId} {fn : Func} {en : Array Value → Sem Value} {args : Array Operand} {tys : Array TypeId} {tvs : List TV} {tv : TV} (ho : o.op = .call ⟨.value (.func g), args, tys⟩) (hf : P.funcs[g]? = some fn)
    (hn : (fn.name == "runtime.NumGoroutine") = false) (hb : fn.body.isNone = true) (hx : Extern.findNext fn = none) (he : Extern.find fn = some en) (ha : st.evs args.toList = some tvs) (hr : tv.refs = [])
    (hrun : ∀ (w : World) (ok : Nat → Prop) (C : Nat → Option Nat) (own : Nat → Option OwnB) (vs : Array Value), vs.size = tvs.length → (∀ (j : Nat) (T : TV), tvs[j]? = some T → ∃ v, vs[j]? = some v ∧ TRep (CRep w ok C own) T v) →
      ∃ v, (en vs).run P w = .ok v w ∧ TRep (CRep w ok C own) tv v) : Does P o base st ⟨tv, [], [], []⟩ := by
  intro B N nt C a w K Q hi hN hK
  obtain ⟨he1, he2⟩ := evs_sound hi ha
  obtain ⟨v, hv1, hv2⟩ := hrun w (okOf B st C w) C st.own (args.map a.eval) (by simpa using he1) (fun j T hj => by
    obtain ⟨x, hx, hr, _⟩ := he2 j T hj
    refine ⟨a.eval x, ?_, hr⟩
    have : args[j]? = some x := by simpa using hx
    simp [this])
  have hexec : (execOp a.eval o).run P w = .ok (.value v) w := by
    simp only [execOp, ho, resolve]
    show ((Deferred.ofValue (a.eval (.func g)) (args.map a.eval)).bind fun d => invoke d.target d.args).run P w = _
    rw [show a.eval (.func g) = .func (.func g) #[] #[] from rfl]
    simp only [Deferred.ofValue]
    show (invoke (.fn (.func g) #[]) (#[] ++ args.map a.eval)).run P w = _
    simp only [invoke]
    rw [run_callFunc_extern hf hn hb hx he]
    simp only [Array.empty_append, Array.append_empty]
    rw [hv1]
    rfl
  unfold Oper.wp
  rw [hexec]
  exact hK _ w C (after_pure (us := []) hi base hv2 (fun r hr' => by rw [hr] at hr'; cases hr'))

theorem str_get {w : World} {ok : Nat → Prop} {C : Nat → Option Nat} {own : Nat → Option OwnB} {s : List UInt8} {v : Value} (h : TRep (CRep w ok C own) (.c (.d (.str s))) v) : v = .string ⟨s.toArray⟩ := by
  have h' : DRep w ok (.str s) v := h
  cases h'; rfl
theorem int_get {w : World} {ok : Nat → Prop} {C : Nat → Option Nat} {own : Nat → Option OwnB} {k : IntKind} {n : Int} {v : Value} (h : TRep (CRep w ok C own) (.int k n) v) : v = .int k n := by
  have h' : DRep w ok (.int k n) v := h
  cases h'; rfl
theorem arr2 {vs : Array Value} {a b : Value} (hs : vs.size = 2) (h0 : vs[0]? = some a) (h1 : vs[1]? = some b) : vs = #[a, b] := by
  obtain ⟨l⟩ := vs
  match l, hs with
  | [x, y], _ => simp at h0 h1; subst h0 h1; rfl

theorem does_cmpstring {g : FuncId} {fn : Func} {args : Array Operand} {tys : Array TypeId} {a b : List UInt8} (ho : o.op = .call ⟨.value (.func g), args, tys⟩) (hf : P.funcs[g]? = some fn)
    (hn : (fn.name == "runtime.NumGoroutine") = false) (hb : fn.body.isNone = true) (hx : Extern.findNext fn = none) (he : Extern.find fn = some Extern.BytealgCompare.compare) (ha : st.evs args.toList = some [.c (.d (.str a)), .c (.d (.str b))]) :
    Does P o base st ⟨.i (Lib.compareBytes a b), [], [], []⟩ := by
  refine does_ext ho hf hn hb hx he ha rfl fun w ok C own vs hs hv => ?_
  obtain ⟨x, hx1, hx2⟩ := hv 0 _ rfl
  obtain ⟨y, hy1, hy2⟩ := hv 1 _ rfl
  rw [arr2 hs hx1 hy1, str_get hx2, str_get hy2]
  refine ⟨_, Lib.run_compareString _ _ w, ?_⟩
  exact DRep.int .i64 _
theorem does_indexByte {g : FuncId} {fn : Func} {args : Array Operand} {tys : Array TypeId} {a : List UInt8} {c : Int} (ho : o.op = .call ⟨.value (.func g), args, tys⟩) (hf : P.funcs[g]? = some fn)
    (hn : (fn.name == "runtime.NumGoroutine") = false) (hb : fn.body.isNone = true) (hx : Extern.findNext fn = none) (he : Extern.find fn = some Extern.BytealgIndexByte.indexByte) (ha : st.evs args.toList = some [.c (.d (.str a)), .int .u8 c]) :
    Does P o base st ⟨.i (Lib.indexByte a c.toNat.toUInt8), [], [], []⟩ := by
  refine does_ext ho hf hn hb hx he ha rfl fun w ok C own vs hs hv => ?_
  obtain ⟨x, hx1, hx2⟩ := hv 0 _ rfl
  obtain ⟨y, hy1, hy2⟩ := hv 1 _ rfl
  rw [arr2 hs hx1 hy1, str_get hx2, int_get hy2]
  refine ⟨_, Lib.run_indexByteString _ _ w, ?_⟩
  exact DRep.int .i64 _
theorem stable_cmpstring {g : FuncId} {fn : Func} {args : Array Operand} {tys : Array TypeId} {a b : List UInt8} (ho : o.op = .call ⟨.value (.func g), args, tys⟩) (hf : P.funcs[g]? = some fn)
    (hn : (fn.name == "runtime.NumGoroutine") = false) (hb : fn.body.isNone = true) (hx : Extern.findNext fn = none) (he : Extern.find fn = some Extern.BytealgCompare.compare) (ha : st.evs args.toList = some [.c (.d (.str a)), .c (.d (.str b))]) :
    Stable V P ops o base st ⟨.i (Lib.compareBytes a b), [], [], []⟩ U := fun σ hσ _ =>
  does_cmpstring ho hf hn hb hx he ((evs_congr fun x hx => agree_ev hσ x (by rw [ho]; simp [Op.operands, Call.operands] at hx ⊢; exact .inr hx)).trans ha)
theorem stable_indexByte {g : FuncId} {fn : Func} {args : Array Operand} {tys : Array TypeId} {a : List UInt8} {c : Int} (ho : o.op = .call ⟨.value (.func g), args, tys⟩) (hf : P.funcs[g]? = some fn)
    (hn : (fn.name == "runtime.NumGoroutine") = false) (hb : fn.body.isNone = true) (hx : Extern.findNext fn = none) (he : Extern.find fn = some Extern.BytealgIndexByte.indexByte) (ha : st.evs args.toList = some [.c (.d (.str a)), .int .u8 c]) :
    Stable V P ops o base st ⟨.i (Lib.indexByte a c.toNat.toUInt8), [], [], []⟩ U := fun σ hσ _ =>
  does_indexByte ho hf hn hb hx he ((evs_congr fun x hx => agree_ev hσ x (by rw [ho]; simp [Op.operands, Call.operands] at hx ⊢; exact .inr hx)).trans ha)
end
section
variable {Γ : Types} {base : Nat} {st : St} {α : Type} {f : α → List D}
theorem at_set {l : List α} {n : Int} {y z : α} (h : at? l n = some y) : at? (l.set n.toNat z) n = some z := by
  obtain ⟨h1, h2, h3⟩ := at_own h
  have hx : n.toNat < l.length := (List.getElem?_eq_some_iff.1 h3).1
  unfold at?
  rw [if_pos h1]
  simp [hx]
theorem eff_loadE {t et : TypeId} {ti : TI} {x : Operand} {id off sz : Nat} {n : Int} {l : List α} {y : α} {v : TV} (ht : Γ.lookup t = some ti) (hx : st.ev x = some (.c (.ep id n.toNat off))) (ho : st.own id = some ⟨et, sz, l.map f⟩) (h : at? l n = some y)
    (hm : (bif Nat.ble (off + ti.sz) (f y).length then mkT ti.agg ((((f y).drop off).take ti.sz).map .d) else none) = some v) : aeff Γ base (.load t x) st = some ⟨v, [], [], [id]⟩ := by
  obtain ⟨_, _, h3⟩ := at_own h
  simp only [aeff, ht, hx, ho, List.getElem?_map, h3, Option.map_some]
  cases hb : Nat.ble (off + ti.sz) (f y).length with
  | false => rw [hb] at hm; cases hm
  | true =>
    rw [hb] at hm
    rw [if_pos (by simpa using hb)]
    have hm' : mkT ti.agg ((((f y).drop off).take ti.sz).map .d) = some v := hm
    rw [hm']
    rfl
theorem eff_storeE {t et : TypeId} {ti : TI} {x u : Operand} {id off sz : Nat} {n : Int} {l : List α} {y z : α} {tv : T1} {vs : List D} (ht : Γ.lookup t = some ti) (hx : st.ev x = some (.c (.ep id n.toNat off))) (ho : st.own id = some ⟨et, sz, l.map f⟩) (h : at? l n = some y)
    (hu : st.ev u = some (.v tv)) (hv : toDs tv.cells = some vs) (hs : (vs.length == ti.sz && Nat.ble (off + ti.sz) (f y).length) = true) (hz : f z = (f y).take off ++ vs ++ (f y).drop (off + ti.sz)) :
    aeff Γ base (.store t x u) st = some ⟨.undef, [(id, some ⟨et, sz, (l.set n.toNat z).map f⟩)], [], [id]⟩ := by
  obtain ⟨_, _, h3⟩ := at_own h
  simp only [Bool.and_eq_true, beq_iff_eq, Nat.ble_eq] at hs
  simp only [aeff, ht, hx, hu, ho, hv, List.getElem?_map, h3, Option.map_some]
  rw [if_pos ⟨hs.1, hs.2⟩, List.map_set, hz]
end

/-! ### Recursion -/
open Classical in
/-- The answer at some depth. -/
noncomputable def fixO {α : Type} (g : Nat → Option α) : Option α := match g 20 with
  | some r => some r
  | none => if h : ∃ n, (g n).isSome = true then g h.choose else none
theorem fixO_some {α : Type} {g : Nat → Option α} {r : α} (h : fixO g = some r) : ∃ n, g n = some r := by
  unfold fixO at h
  split at h
  · rename_i h1; injection h with h; subst h; exact ⟨_, h1⟩
  · split at h
    · exact ⟨_, h⟩
    · cases h
theorem fixO_eq {α : Type} {g : Nat → Option α} {r : α} {n : Nat} (h : g n = some r) (hu : ∀ m x, g m = some x → x = r) : fixO g = some r := by
  unfold fixO
  split
  · rename_i h1; exact congrArg some (hu _ _ h1)
  · have hx : ∃ n, (g n).isSome = true := ⟨n, by rw [h]; rfl⟩
    rw [dif_pos hx]
    obtain ⟨x, hx'⟩ := Option.isSome_iff_exists.1 hx.choose_spec
    rw [hx', hu _ _ hx']

/-! ### Bytes -/
def countB (s : List UInt8) (c : UInt8) : Int := (s.count c : Int)
def bytesD (s : List UInt8) : List Int := s.map fun c => (c.toNat : Int)

/-! ### Maps, as rows of entries -/
/-- an order of keys -/
class KOrd (κ : Type) where
  lt : κ → κ → Bool
instance : KOrd (List UInt8) := ⟨Op.bytesLess⟩
instance : KOrd Int := ⟨fun a b => decide (a < b)⟩
section
variable {κ β : Type} [DecidableEq κ]
def aget (l : List (κ × β)) (k : κ) : Option β := (l.find? fun e => decide (k = e.1)).map (·.2)
def aput0 (l : List (κ × β)) (k : κ) (v : β) : List (κ × β) :=
  bif l.any (fun e => decide (k = e.1)) then l.map (fun e => bif decide (k = e.1) then (k, v) else e) else l ++ [(k, v)]
/-- an entry is put in the place that its key has -/
def aput [KOrd κ] (l : List (κ × β)) (k : κ) (v : β) : List (κ × β) :=
  bif l.any (fun e => decide (k = e.1)) then l.map (fun e => bif decide (k = e.1) then (k, v) else e) else l.takeWhile (fun e => KOrd.lt e.1 k) ++ (k, v) :: l.dropWhile (fun e => KOrd.lt e.1 k)
theorem aput_perm [KOrd κ] (l : List (κ × β)) (k : κ) (v : β) : (aput l k v).Perm (aput0 l k v) := by
  unfold aput aput0
  cases l.any fun e => decide (k = e.1) with
  | true => exact List.Perm.refl _
  | false =>
    refine List.perm_middle.trans ?_
    rw [List.takeWhile_append_dropWhile]
    exact (List.perm_append_comm (l₁ := [(k, v)]) (l₂ := l))
def adel (l : List (κ × β)) (k : κ) : List (κ × β) := l.filter fun e => !decide (k = e.1)
end

/-! ### What does not depend on the order -/
/-- a range: what comes, one after the other; none: nothing is left -/
def rngO {α σ ρ : Type} (f : Option α → σ → Option (σ ⊕ ρ)) : List α → σ → Option ρ
  | [], s => (f none s).bind fun x => match x with
    | .inl _ => none
    | .inr r => some r
  | e :: l, s => (f (some e) s).bind fun x => match x with
    | .inl s' => rngO f l s'
    | .inr r => some r
open Classical in
/-- The answer, if it is the same for all orders. -/
noncomputable def allPerm {α ρ : Type} (es : List α) (g : List α → Option ρ) : Option ρ := match es with
  | [] => g []
  | [e] => g [e]
  | es => if h : ∃ r, ∀ o, List.Perm o es → g o = some r then some h.choose else none
theorem allPerm_spec {α ρ : Type} {es : List α} {g : List α → Option ρ} {r : ρ} (h : allPerm es g = some r) : ∀ o, List.Perm o es → g o = some r := by
  intro o ho
  unfold allPerm at h
  split at h
  · rw [List.Perm.eq_nil ho]; exact h
  · rw [List.perm_singleton.1 ho]; exact h
  · split at h
    · rename_i hx
      injection h with h
      subst h
      exact hx.choose_spec o ho
    · cases h
theorem allPerm_intro {α ρ : Type} {es : List α} {g : List α → Option ρ} {r : ρ} (h : ∀ o, List.Perm o es → g o = some r) : allPerm es g = some r := by
  unfold allPerm
  split
  · exact h _ (List.Perm.refl _)
  · exact h _ (List.Perm.refl _)
  · have hx : ∃ r, ∀ o, List.Perm o es → g o = some r := ⟨r, h⟩
    rw [dif_pos hx]
    have h1 := hx.choose_spec es (List.Perm.refl _)
    rw [h es (List.Perm.refl _)] at h1
    exact h1.symm
end Go.Eng
