/-
What a function does to the memory that it is handed; how a call of it is reckoned.
-/
import Derived.Test.YtnnadlpfbfajdaaGreatDoorEngO
namespace Go.Eng
open Go
set_option linter.unusedVariables false
set_option linter.unusedSimpArgs false

def Mem.base (m : Mem) (w : World) (C : Nat → Option Nat) (bad : Nat → Prop) : Base := ⟨w, fun b => ∃ k, m.live k ∧ C k = some b, C, m.box.map Prod.fst ++ m.own.map Prod.fst, bad⟩
abbrev Mem.s (m : Mem) : St := m.st (fun _ => .undef) 0
def Mem.rep (m : Mem) (B : Base) (C : Nat → Option Nat) (w : World) : Cell → Value → Prop := CRep w (okOf B m.s C w) C m.s.own

def Enters (P : Program) (f : FuncId) : Prop := ∃ fn c, P.funcs[f]? = some fn ∧ (fn.name == "runtime.NumGoroutine") = false ∧ fn.body = some c

/-- What a call with these arguments and this memory answers and leaves. -/
def Holds (P : Program) (f : FuncId) (args : List TV) (m : Mem) (R : TV → Mem → Prop) : Prop :=
  Enters P f ∧ ∀ (C : Nat → Option Nat) (w : World) (bad : Nat → Prop) (vs : Array Value), Mm (m.base w C bad) C m.s w →
    vs.size = args.length → (∀ (j : Nat) (tv : TV), args[j]? = some tv → ∃ v, vs[j]? = some v ∧ TRep (m.rep (m.base w C bad) C w) tv v) →
    Calls P f vs w fun e w' => ∃ v tv m' C', e = .returned v ∧ R tv m' ∧ Mm (m.base w C bad) C' m'.s w' ∧ TRep (m'.rep (m.base w C bad) C' w') tv v

theorem Holds.mono {P : Program} {f : FuncId} {args : List TV} {m : Mem} {R R' : TV → Mem → Prop} (h : Holds P f args m R) (hr : ∀ tv m', R tv m' → R' tv m') : Holds P f args m R' :=
  ⟨h.1, fun C w bad vs h1 h2 h3 => (h.2 C w bad vs h1 h2 h3).mono fun e w' ⟨v, tv, m', C', g1, g2, g3⟩ => ⟨v, tv, m', C', g1, hr tv m' g2, g3⟩⟩

/-! ### Names -/
theorem refs_ren (c : Cell) (r : Nat → Nat) : (c.ren r).refs = c.refs.map r := by cases c <;> rfl
theorem refs_ren1 (x : T1) (r : Nat → Nat) : (x.ren r).refs = x.refs.map r := by
  cases x with
  | one c => exact refs_ren c r
  | agg cs => induction cs with
    | nil => rfl
    | cons c cs ih => simp [T1.ren, T1.refs, refs_ren] at ih ⊢; exact ih
theorem refs_renT (x : TV) (r : Nat → Nat) : (x.ren r).refs = x.refs.map r := by
  cases x with
  | v x => exact refs_ren1 x r
  | tup xs => induction xs with
    | nil => rfl
    | cons c cs ih => simp [TV.ren, TV.refs, refs_ren1] at ih ⊢; exact ih

theorem T1Rep.ren {R R' : Cell → Value → Prop} {r : Nat → Nat} {x : T1} {v : Value} (h : T1Rep R x v) (hi : ∀ c u, (∀ k ∈ c.refs, k ∈ x.refs) → (∃ cs, x = .agg cs ∧ c ∈ cs ∨ x = .one c) → R c u → R' (c.ren r) u) : T1Rep R' (x.ren r) v := by
  cases x with
  | one c => exact hi c v (fun _ h => h) ⟨[], .inr rfl⟩ h
  | agg cs =>
    obtain ⟨vs, e, h1, h2⟩ := h
    refine ⟨vs, e, by simpa using h1, fun j c hj => ?_⟩
    rw [List.getElem?_map, Option.map_eq_some_iff] at hj
    obtain ⟨c0, hj, rfl⟩ := hj
    obtain ⟨u, g1, g2⟩ := h2 j c0 hj
    have hm := List.mem_of_getElem? hj
    exact ⟨u, g1, hi c0 u (fun k hk => List.mem_flatMap.2 ⟨c0, hm, hk⟩) ⟨cs, .inl ⟨rfl, hm⟩⟩ g2⟩

/-- The cells of a value. -/
def TV.cs : TV → List Cell
  | .v x => x.cells
  | .tup xs => xs.flatMap T1.cells
theorem TRep.ren {R R' : Cell → Value → Prop} {r : Nat → Nat} {x : TV} {v : Value} (h : TRep R x v) (hi : ∀ c u, c ∈ x.cs → R c u → R' (c.ren r) u) : TRep R' (x.ren r) v := by
  have hcells : ∀ (y : T1) (c : Cell), (∃ cs, y = .agg cs ∧ c ∈ cs ∨ y = .one c) → c ∈ y.cells := by
    rintro y c ⟨cs, ⟨rfl, h⟩ | rfl⟩
    · exact h
    · simp [T1.cells]
  cases x with
  | v x => exact T1Rep.ren h fun c u _ hc hr => hi c u (hcells x c hc) hr
  | tup xs =>
    obtain ⟨vs, e, h1, h2⟩ := h
    refine ⟨vs, e, by simpa using h1, fun j c hj => ?_⟩
    rw [List.getElem?_map, Option.map_eq_some_iff] at hj
    obtain ⟨c0, hj, rfl⟩ := hj
    obtain ⟨u, g1, g2⟩ := h2 j c0 hj
    have hm := List.mem_of_getElem? hj
    exact ⟨u, g1, T1Rep.ren g2 fun c u _ hc hr => hi c u (List.mem_flatMap.2 ⟨c0, hm, hcells c0 c hc⟩) hr⟩

theorem mem_refs {x : TV} {c : Cell} {k : Nat} (hc : c ∈ x.cs) (hk : k ∈ c.refs) : k ∈ x.refs := by
  have h1 : ∀ y : T1, c ∈ y.cells → k ∈ y.refs := fun y hy => by
    cases y with
    | one d => simp [T1.cells] at hy; subst hy; exact hk
    | agg cs => exact List.mem_flatMap.2 ⟨c, hy, hk⟩
  cases x with
  | v x => exact h1 x hc
  | tup xs =>
    obtain ⟨y, hy, hcy⟩ := List.mem_flatMap.1 (show c ∈ xs.flatMap T1.cells from hc)
    exact List.mem_flatMap.2 ⟨y, hy, h1 y hcy⟩

/-! ### The effect of a call -/
theorem updL_spec {α : Type} : ∀ (l : List (Nat × α)) (m : Nat → α) (k : Nat), (updL m l k = m k ∧ ∀ p ∈ l, p.1 ≠ k) ∨ ∃ v, (k, v) ∈ l ∧ updL m l k = v
  | [], m, k => .inl ⟨rfl, by simp⟩
  | p :: l, m, k => by
    rcases updL_spec l (upd m p.1 p.2) k with ⟨h1, h2⟩ | ⟨v, h1, h2⟩
    · by_cases hk : k = p.1
      · subst hk; exact .inr ⟨p.2, by simp, by show updL (upd m p.1 p.2) l p.1 = _; rw [h1, upd_same]⟩
      · refine .inl ⟨by show updL (upd m p.1 p.2) l k = _; rw [h1, upd_ne _ _ hk], fun q hq => ?_⟩
        rcases List.mem_cons.1 hq with rfl | hq
        · exact fun h => hk h.symm
        · exact h2 q hq
    · exact .inr ⟨v, List.mem_cons_of_mem _ h1, h2⟩

theorem mem_lookup {α : Type} : ∀ {l : List (Nat × α)} {k : Nat} {v : α}, l.lookup k = some v → (k, v) ∈ l
  | [], k, v, h => by simp at h
  | p :: l, k, v, h => by
    rw [List.lookup_cons] at h
    split at h
    · rename_i hk
      have : k = p.1 := by simpa using hk
      cases h; subst this; simp
    · exact List.mem_cons_of_mem _ (mem_lookup h)
theorem lookup_mem {α : Type} : ∀ {l : List (Nat × α)} {k : Nat} {v : α}, (l.map Prod.fst).Nodup → (k, v) ∈ l → l.lookup k = some v
  | [], k, v, hn, h => by simp at h
  | p :: l, k, v, hn, h => by
    rw [List.map_cons, List.nodup_cons] at hn
    rw [List.lookup_cons]
    rcases List.mem_cons.1 h with rfl | h
    · simp
    · have : k ≠ p.1 := fun e => hn.1 (by rw [← e]; exact List.mem_map.2 ⟨(k, v), h, rfl⟩)
      have h2 : (k == p.1) = false := by simpa using this
      rw [h2]
      exact lookup_mem hn.2 h
theorem lookup_some {α : Type} {l : List (Nat × α)} {p : Nat × α} (h : p ∈ l) : l.lookup p.1 ≠ none := by
  intro h0
  rw [List.lookup_eq_none_iff] at h0
  have := h0 p h
  simp at this

/-- What keeps its block behind a call: the variables, and the slices that are still there under their own names. -/
def kp (m m' : Mem) (k : Nat) : Bool := (m.box.lookup k).isSome || ((m.own.lookup k).isSome && (m'.own.lookup k).isSome)
def rnm (m m' : Mem) (ρ : Nat → Nat) (base k : Nat) : Nat := if kp m m' k then ρ k else base + k
def callE (m m' : Mem) (ρ : Nat → Nat) (nils : Nat → Bool) (lens : List Nat) (base : Nat) (tv : TV) : Eff :=
  ⟨tv.ren (rnm m m' ρ base), ((m.own.filter fun p => !nils p.1).map fun p => (ρ p.1, none)) ++ m'.own.map fun p => (rnm m m' ρ base p.1, some p.2),
    m'.box.map fun p => (rnm m m' ρ base p.1, some (p.2.map (Cell.ren (rnm m m' ρ base)))), (m.own.map fun p => ρ p.1) ++ (m.box.map fun p => ρ p.1) ++ lens⟩

def Cell.flat : Cell → Bool
  | .d (.int ..) => true
  | .d (.bool _) => true
  | .d (.str _) => true
  | .d (.lst _) => false
  | .cp _ => false
  | .mapc .. => false
  | .mapg .. => false
  | _ => true
theorem CRep.flat {w : World} {ok ok' : Nat → Prop} {C : Nat → Option Nat} {own : Nat → Option OwnB} {c : Cell} {v : Value} (h : CRep w ok C own c v) (hf : c.flat = true) : CRep w ok' C own c v := by
  cases c with
  | d x =>
    cases x with
    | lst xs => cases hf
    | int k n => have h' : DRep w ok (.int k n) v := h; cases h'; exact .int k n
    | bool b => have h' : DRep w ok (.bool b) v := h; cases h'; exact .bool b
    | str s => have h' : DRep w ok (.str s) v := h; cases h'; exact .str s
  | cp cs => cases hf
  | mapc ka va l => cases hf
  | mapg ka va me cl => cases hf
  | _ => exact h

def D.plain : D → Bool
  | .lst _ => false
  | _ => true
theorem DRep.plain {w : World} {ok ok' : Nat → Prop} {x : D} {v : Value} (h : DRep w ok x v) (hp : x.plain = true) : DRep w ok' x v := by
  cases x with
  | lst xs => cases hp
  | int k n => cases h; exact .int k n
  | bool b => cases h; exact .bool b
  | str s => cases h; exact .str s
/-- Slices of one's own whose elements point nowhere. -/
def PlainO (l : List (Nat × OwnB)) : Prop := ∀ k e, l.lookup k = some e → ∀ cs ∈ e.xs, ∀ x ∈ cs, x.plain = true
theorem plainO_one {α : Type} {k : Nat} {et : TypeId} {sz : Nat} {xs : List α} {f : α → List D} (hf : ∀ y, (f y).all D.plain = true) : PlainO [(k, ⟨et, sz, xs.map f⟩)] := by
  intro k' e he cs hcs x hx
  rw [List.lookup_cons] at he
  split at he
  · injection he with he
    subst he
    obtain ⟨y, _, rfl⟩ := List.mem_map.1 hcs
    exact List.all_eq_true.1 (hf y) x hx
  · cases he
theorem OwnOk.plain {w : World} {ok ok' : Nat → Prop} {C C' : Nat → Option Nat} {id : Nat} {e : OwnB} (h : OwnOk w ok C id e) (hC : C' id = C id) (hp : ∀ cs ∈ e.xs, ∀ x ∈ cs, x.plain = true) : OwnOk w ok' C' id e := by
  obtain ⟨h0, h⟩ := h
  refine ⟨h0, h.imp (fun ⟨h1, h2⟩ => ⟨hC.trans h1, h2⟩) ?_⟩
  rintro ⟨b, arr, h1, h2, h3, h4, h5⟩
  refine ⟨b, arr, hC.trans h1, h2, h3, h4, fun i j cs x hi hj => ?_⟩
  obtain ⟨v, hv, hd⟩ := h5 i j cs x hi hj
  exact ⟨v, hv, hd.plain (hp cs (List.mem_of_getElem? hi) x (List.mem_of_getElem? hj))⟩

/-- What is asked of the memory that a call leaves. -/
structure Left (m m' : Mem) (lens : List Nat) (tv : TV) : Prop where
  nodup : (m'.own.map Prod.fst).Nodup
  nodupB : (m'.box.map Prod.fst).Nodup
  keeps : ∀ k, m.box.lookup k ≠ none → m'.box.lookup k ≠ none
  keys : ∀ k, m'.live k → m.box.lookup k ≠ none ∨ k < 1000
  refs : ∀ k ∈ tv.refs, m.box.lookup k ≠ none ∨ k < 1000
  cells : ∀ j cs c, m'.box.lookup j = some cs → c ∈ cs → ∀ k ∈ c.refs, m.box.lookup k ≠ none ∨ k < 1000
  lens : lens = [] ∨ (PlainO m'.own ∧ (∀ c ∈ tv.cs, c.flat = true) ∧ ∀ j cs c, m'.box.lookup j = some cs → c ∈ cs → c.flat = true)

/-- Slices that are still there are as long as they were. -/
def Pins (m m' : Mem) (nils : Nat → Bool) : Prop := ∀ k e e', m.own.lookup k = some e → m'.own.lookup k = some e' → nils k = false ∧ e.et = e'.et ∧ e.sz = e'.sz ∧ e.xs.length = e'.xs.length

section
variable {P : Program} {B : Base} {N : Nat → Prop} {nt : Nat} {C : Nat → Option Nat} {st : St} {a : Act} {w : World}

theorem does_call {o : Oper} {base : Nat} {f : Operand} {args : Array Operand} {tys : Array TypeId} {g : FuncId} {caps : List Nat} {tvs al : List TV} {m m' : Mem} {tv : TV} {ρ : Nat → Nat} {nils : Nat → Bool} {lens : List Nat}
    (ho : o.op = .call ⟨.value f, args, tys⟩) (hf : st.ev f = some (.c (.fn g caps))) (ha : st.evs args.toList = some tvs) (hs : Sees (· ∈ lens) st ρ nils m)
    (hargs : L2 (TVSee (CellSee (· ∈ lens) st ρ nils m)) (tvs ++ caps.map fun id => .c (.box id 0)) al)
    (hH : Holds P g al m (fun tv' m'' => tv' = tv ∧ m'' = m')) (hl : Left m m' lens tv) (hpin : Pins m m' nils) : Does P o base st (callE m m' ρ nils lens base tv) := by
  intro B N nt C a w K Q h hN hK
  obtain ⟨cv, hfv, hcs, hcaps⟩ := (ev_sound h hf).1
  -- the callee's world
  let C1 := seeC C ρ nils
  let bad1 : Nat → Prop := fun b => B.bad b ∨ ∃ id, Live st id ∧ C id = some b ∧ id ∉ lens ∧ ∀ k, m.live k → nils k = false → ρ k ≠ id
  let B1 := m.base w C1 bad1
  have hsee : ∀ k b, C1 k = some b → nils k = false ∧ C (ρ k) = some b := by
    intro k b hb
    have hb' : (if nils k then none else C (ρ k)) = some b := hb
    split at hb'
    · cases hb'
    · rename_i hn; exact ⟨by simpa using hn, hb'⟩
  have hbad : ∀ b, okOf B st C w b → ¬ B1.bad b := by
    rintro b hb (h1 | ⟨id, h1, h2, _⟩)
    · exact hb.2.1 h1
    · exact hb.2.2 id h1 h2
  have hlb : ∀ id b, id ∈ lens → Live st id → C id = some b → ¬ B1.bad b := by
    rintro id b hid hli hb (h1 | ⟨id', h1, h2, h3, _⟩)
    · exact h.nb id b hli hb h1
    · have := h.inj id id' b hli h1 hb h2
      subst this; exact h3 hid
  have hmm : Mm B1 C1 m.s w := by
    refine hs.mm h.toMm hbad hlb ?_ ?_ (Fr.refl _ _) (fun _ _ => rfl) fun k b hk hb => .inl ⟨k, hk, hb⟩
    · rintro k b hk hb (h1 | ⟨id, h1, h2, h3, h4⟩)
      · obtain ⟨g1, g2⟩ := hsee k b hb
        exact h.nb _ b (hs.live hk g1) g2 h1
      · obtain ⟨g1, g2⟩ := hsee k b hb
        exact h4 k hk g1 (h.inj _ _ b (hs.live hk g1) h1 g2 h2)
    · refine ⟨?_, fun g cs hg => ?_⟩
      · rintro b (h1 | ⟨id, h1, h2, _⟩)
        · exact Nat.lt_of_lt_of_le (h.badlt.lt b h1) h.fr.size
        · exact h.block_lt h1 h2
      · obtain ⟨t2, t3, t4⟩ := h.badlt.tab g cs hg
        have t1 := t4.lt
        have hnl : ∀ id, Live st id → C id ≠ some g := fun id hl hc => by
          rcases h.wr id g hl hc with h5 | h5
          · exact t3 h5
          · omega
        refine ⟨?_, ?_, t4.imp fun et t => t.imp fun fr t => (h.fr.block g t1 t3).trans t⟩
        · rintro (h1 | ⟨id, h1, h2, _⟩)
          · exact t2 h1
          · exact hnl id h1 h2
        · rintro ⟨k, hk, hb⟩
          obtain ⟨g1, g2⟩ := hsee k g hb
          exact hnl _ (hs.live hk g1) g2
  -- its arguments
  obtain ⟨hl1, hl2⟩ := hargs.get
  obtain ⟨he1, he2⟩ := evs_sound h ha
  have hsize : (args.map a.eval ++ cv).size = al.length := by
    rw [← hl1]
    have : args.size = tvs.length := by simpa using he1
    simp [this, hcs]
  have hrep : ∀ (j : Nat) (tv : TV), al[j]? = some tv → ∃ v, (args.map a.eval ++ cv)[j]? = some v ∧ TRep (m.rep B1 C1 w) tv v := by
    intro j A hj
    obtain ⟨T, hT, hTA⟩ := hl2 j A hj
    have key : ∃ v, (args.map a.eval ++ cv)[j]? = some v ∧ TRep (CRep w (okOf B st C w) C st.own) T v := by
      have hsz : args.size = tvs.length := by simpa using he1
      rcases Nat.lt_or_ge j tvs.length with hlt | hge
      · rw [List.getElem?_append_left hlt] at hT
        obtain ⟨x, hx, hr, _⟩ := he2 j T hT
        refine ⟨a.eval x, ?_, hr⟩
        rw [Array.getElem?_append_left (by simpa [hsz] using hlt)]
        have : args[j]? = some x := by simpa using hx
        simp [this]
      · rw [List.getElem?_append_right hge, List.getElem?_map, Option.map_eq_some_iff] at hT
        obtain ⟨id, hid, rfl⟩ := hT
        obtain ⟨b, hb, hv⟩ := hcaps _ _ hid
        refine ⟨_, ?_, ⟨b, hb, rfl⟩⟩
        rw [Array.getElem?_append_right (by simpa [hsz] using hge)]
        simpa [hsz] using hv
    obtain ⟨v, hv, hr⟩ := key
    exact ⟨v, hv, hTA.rep (fun c c' u hc hr => hs.cell h.toMm hbad hlb hc hr) (fun u => trivial) hr⟩
  have hcall := hH.2 C1 w bad1 (args.map a.eval ++ cv) hmm hsize hrep
  obtain ⟨fn, c, hfn, hname, hbody⟩ := hH.1
  have hrun : (execOp a.eval o).run P w = .ok (.enter g (args.map a.eval ++ cv)) w := by
    have h1 : fn.name ≠ "runtime.NumGoroutine" := by simpa using hname
    simp [execOp, ho, resolve, hfv, Deferred.ofValue, invoke, callFunc, hfn, h1, hbody]
  unfold Oper.wp
  rw [hrun, Oper.upon_enter]
  refine hcall.mono ?_
  rintro e w' ⟨v, tv0, m0, C', rfl, ⟨e1, e2⟩, hm', hv⟩
  subst tv0 m0
  show K (a.put o.dst v) w'
  -- what it left
  let r := rnm m m' ρ base
  let C2 : Nat → Option Nat := fun id => if base ≤ id ∧ id < base + 1000 then C' (id - base) else C id
  let e := callE m m' ρ nils lens base tv
  let st' := st.mem e
  let ok1 := okOf B1 m'.s C' w'
  let ok2 := okOf B st' C2 w'
  have hNr : ∀ id, base ≤ id ∧ id < base + 1000 → N id := fun id hid => by
    have := hN (id - base) (by omega)
    rwa [show base + (id - base) = id by omega] at this
  have hliveN : ∀ id, Live st id → ¬ N id := fun id hl hn => by
    rcases hl with hl | hl
    · exact hl (h.res.own id hn)
    · exact hl (h.res.box id hn)
  have hbk : ∀ k, m.box.lookup k ≠ none → nils k = false ∧ st.box (ρ k) ≠ none := fun k hk => by
    obtain ⟨cs, hcs⟩ := Option.ne_none_iff_exists'.1 hk
    obtain ⟨h1, cs0, h2, _⟩ := hs.box k cs hcs
    exact ⟨h1, by rw [h2]; simp⟩
  have hkl : ∀ k, kp m m' k = true → m.live k ∧ nils k = false := fun k hk => by
    simp only [kp, Bool.or_eq_true, Bool.and_eq_true, Option.isSome_iff_ne_none] at hk
    rcases hk with hk | ⟨hk, hk'⟩
    · exact ⟨.inr hk, (hbk k hk).1⟩
    · obtain ⟨E, hE⟩ := Option.ne_none_iff_exists'.1 hk
      obtain ⟨E', hE'⟩ := Option.ne_none_iff_exists'.1 hk'
      exact ⟨.inl hk, (hpin k E E' hE hE').1⟩
  have hkp : ∀ k, kp m m' k = true → Live st (ρ k) := fun k hk => hs.live (hkl k hk).1 (hkl k hk).2
  have hnk : ∀ k, kp m m' k = false → m.box.lookup k = none := fun k hk => by
    simp only [kp, Bool.or_eq_false_iff] at hk
    simpa using hk.1
  have hbkp : ∀ k, m.box.lookup k ≠ none → kp m m' k = true := fun k hk => by
    simp only [kp, Bool.or_eq_true]
    exact .inl (Option.isSome_iff_ne_none.2 hk)
  have hrb : ∀ k, kp m m' k = true → r k = ρ k := fun k hk => by
    show (if kp m m' k then ρ k else base + k) = ρ k
    rw [if_pos hk]
  have hrf : ∀ k, kp m m' k = false → r k = base + k := fun k hk => by
    show (if kp m m' k then ρ k else base + k) = base + k
    rw [if_neg (by simp [hk])]
  have hC2 : ∀ id, ¬ N id → C2 id = C id := fun id hn => if_neg fun hid => hn (hNr id hid)
  have hanc : ∀ k, kp m m' k = true → C' k = C (ρ k) := fun k hk => by
    have h0 := hkl k hk
    have h1 := hm'.anc k (by
      rcases h0.1 with h2 | h2
      · obtain ⟨E, hE⟩ := Option.ne_none_iff_exists'.1 h2
        exact List.mem_append_right _ (List.mem_map.2 ⟨_, mem_lookup hE, rfl⟩)
      · obtain ⟨E, hE⟩ := Option.ne_none_iff_exists'.1 h2
        exact List.mem_append_left _ (List.mem_map.2 ⟨_, mem_lookup hE, rfl⟩))
    rw [h1]
    show (if nils k then none else C (ρ k)) = _
    rw [h0.2]; rfl
  have hrC : ∀ k, m.box.lookup k ≠ none ∨ k < 1000 → C2 (r k) = C' k := by
    intro k hk
    cases hb : kp m m' k with
    | false =>
      have hk' := hk.resolve_left (by simp [hnk k hb])
      rw [hrf k hb]
      show (if base ≤ base + k ∧ base + k < base + 1000 then C' (base + k - base) else C (base + k)) = C' k
      rw [if_pos ⟨by omega, by omega⟩, show base + k - base = k by omega]
    | true => rw [hrb k hb, hC2 _ (hliveN _ (hkp k hb)), hanc k hb]
  have hrN : ∀ k, m.box.lookup k ≠ none ∨ k < 1000 → ¬ Less N base (r k) := by
    intro k hk
    cases hb : kp m m' k with
    | false =>
      have hk' := hk.resolve_left (by simp [hnk k hb])
      rw [hrf k hb]
      exact fun hn => hn.2 ⟨by omega, by omega⟩
    | true =>
      rw [hrb k hb]
      exact fun hn => hliveN _ (hkp k hb) hn.1
  have hrinj : ∀ k k', (m.box.lookup k ≠ none ∨ k < 1000) → (m.box.lookup k' ≠ none ∨ k' < 1000) → r k = r k' → k = k' := by
    intro k k' hk hk' he
    cases hb : kp m m' k <;> cases hb' : kp m m' k'
    · rw [hrf k hb, hrf k' hb'] at he; omega
    · have hk := hk.resolve_left (by simp [hnk k hb])
      rw [hrf k hb, hrb k' hb'] at he
      exact absurd (hNr _ ⟨by omega, by omega⟩) (hliveN _ (he ▸ hkp k' hb'))
    · have hk' := hk'.resolve_left (by simp [hnk k' hb'])
      rw [hrb k hb, hrf k' hb'] at he
      exact absurd (hNr _ ⟨by omega, by omega⟩) (hliveN _ (he ▸ hkp k hb))
    · rw [hrb k hb, hrb k' hb'] at he
      exact hs.inj k k' (hkl k hb).1 (hkl k' hb').1 (hkl k hb).2 (hkl k' hb').2 he
  have own' : ∀ id E, st'.own id = some E → (∃ k, m'.own.lookup k = some E ∧ r k = id) ∨ (st.own id = some E ∧ ∀ k, m.live k → nils k = false → ρ k ≠ id) := by
    intro id E hid
    have hid' : updL st.own e.ou id = some E := hid
    rcases updL_spec e.ou st.own id with ⟨h1, h2⟩ | ⟨v, h1, h2⟩
    · rw [h1] at hid'
      refine .inr ⟨hid', fun k hk hn hρ => ?_⟩
      rcases hk with hk | hk
      · obtain ⟨E', hE'⟩ := Option.ne_none_iff_exists'.1 hk
        exact h2 (ρ k, none) (List.mem_append_left _ (List.mem_map.2 ⟨(k, E'), List.mem_filter.2 ⟨mem_lookup hE', by simp [hn]⟩, rfl⟩)) hρ
      · have := (hbk k hk).2
        rw [hρ] at this
        rcases h.excl id with h3 | h3
        · rw [hid'] at h3; cases h3
        · exact this h3
    · rw [h2] at hid'
      subst hid'
      rcases List.mem_append.1 h1 with h1 | h1
      · obtain ⟨p, _, hp⟩ := List.mem_map.1 h1
        cases hp
      · obtain ⟨p, hp1, hp2⟩ := List.mem_map.1 h1
        cases hp2
        exact .inl ⟨p.1, lookup_mem hl.nodup hp1, rfl⟩
  have box' : ∀ id cs, st'.box id = some cs → (∃ k cs', m'.box.lookup k = some cs' ∧ r k = id ∧ cs = cs'.map (Cell.ren r)) ∨ (st.box id = some cs ∧ ∀ k, m.live k → nils k = false → ρ k ≠ id) := by
    intro id cs hid
    have hid' : updL st.box e.bu id = some cs := hid
    rcases updL_spec e.bu st.box id with ⟨h1, h2⟩ | ⟨v, h1, h2⟩
    · rw [h1] at hid'
      refine .inr ⟨hid', fun k hk hn hρ => ?_⟩
      by_cases hkb : m.box.lookup k = none
      · have hk := hk.resolve_right (by simp [hkb])
        obtain ⟨E', hE'⟩ := Option.ne_none_iff_exists'.1 hk
        rcases hs.own k E' hE' with ⟨h3, _⟩ | ⟨_, h3⟩
        · rw [hn] at h3; cases h3
        · rw [hρ] at h3
          rcases h.excl id with h4 | h4
          · rw [h3] at h4; cases h4
          · rw [hid'] at h4; cases h4
      · obtain ⟨cs', hcs'⟩ := Option.ne_none_iff_exists'.1 (hl.keeps k hkb)
        exact h2 (r k, some (cs'.map (Cell.ren r))) (List.mem_map.2 ⟨(k, cs'), mem_lookup hcs', rfl⟩) ((hrb k (hbkp k hkb)).trans hρ)
    · rw [h2] at hid'
      subst hid'
      obtain ⟨p, hp1, hp2⟩ := List.mem_map.1 h1
      injection hp2 with hp3 hp4
      injection hp4 with hp4
      exact .inl ⟨p.1, p.2, lookup_mem hl.nodupB hp1, hp3, hp4.symm⟩
  have live' : ∀ id, Live st' id → (∃ k, m'.live k ∧ r k = id) ∨ (Live st id ∧ ∀ k, m.live k → nils k = false → ρ k ≠ id) := by
    intro id hid
    rcases hid with hid | hid
    · obtain ⟨E, hE⟩ := Option.ne_none_iff_exists'.1 hid
      rcases own' id E hE with ⟨k, h1, h2⟩ | ⟨h1, h2⟩
      · exact .inl ⟨k, .inl (by rw [h1]; simp), h2⟩
      · exact .inr ⟨.inl (by rw [h1]; simp), h2⟩
    · obtain ⟨E, hE⟩ := Option.ne_none_iff_exists'.1 hid
      rcases box' id E hE with ⟨k, cs', h1, h2, _⟩ | ⟨h1, h2⟩
      · exact .inl ⟨k, .inr (by rw [h1]; simp), h2⟩
      · exact .inr ⟨.inr (by rw [h1]; simp), h2⟩
  have hWr : ∀ b, B1.Wr b → ∃ k, m.live k ∧ nils k = false ∧ Live st (ρ k) ∧ C (ρ k) = some b := by
    rintro b ⟨k, hk, hb⟩
    obtain ⟨g1, g2⟩ := hsee k b hb
    exact ⟨k, hk, g1, hs.live hk g1, g2⟩
  have hsz : w.heap.size ≤ w'.heap.size := hm'.fr.size
  have untouched : ∀ id b, Live st id → (∀ k, m.live k → nils k = false → ρ k ≠ id) → C id = some b → w'.heap[b]? = w.heap[b]? := by
    intro id b hli hu hb
    refine hm'.fr.block b (h.block_lt hli hb) fun hw => ?_
    obtain ⟨k, hk, hn, hlk, hbk⟩ := hWr b hw
    exact hu k hk hn (h.inj _ _ b hlk hli hbk hb)
  have hw : ∀ b, okOf B st C w b → w'.heap[b]? = w.heap[b]? := by
    intro b hb
    refine hm'.fr.block b hb.1 fun hw => ?_
    obtain ⟨k, hk, hn, hlk, hbk⟩ := hWr b hw
    exact hb.2.2 _ hlk hbk
  have hkC : ∀ k b, m'.live k → C' k = some b → (∃ k', m.live k' ∧ nils k' = false ∧ Live st (ρ k') ∧ C (ρ k') = some b) ∨ w.heap.size ≤ b := by
    intro k b hk hb
    exact (hm'.wr k b hk hb).imp (hWr b) id
  have hok : ∀ b, okOf B st C w b → ok2 b := by
    intro b hb
    refine ⟨Nat.lt_of_lt_of_le hb.1 hsz, hb.2.1, fun id hid hcb => ?_⟩
    rcases live' id hid with ⟨k, hk, rfl⟩ | ⟨h1, h2⟩
    · rw [hrC k (hl.keys k hk)] at hcb
      rcases hkC k b hk hcb with ⟨k', _, _, h3, h4⟩ | h3
      · exact hb.2.2 _ h3 h4
      · have := hb.1; omega
    · rw [hC2 id (hliveN id h1)] at hcb
      exact hb.2.2 id h1 hcb
  have hbox2 : ∀ k, m'.own.lookup k ≠ none → m.box.lookup k = none := by
    intro k hk
    refine Classical.byContradiction fun hb => ?_
    rcases hm'.excl k with h1 | h1
    · exact hk h1
    · exact hl.keeps k hb h1
  have hmoves : Moves B N C st w C2 st' w' := by
    refine ⟨hw, hok, fun id hid => hC2 id hid, fun id hid e' he' => ?_⟩
    rcases own' id e' he' with ⟨k, h1, h2⟩ | ⟨h1, h2⟩
    · cases hb : kp m m' k with
      | false =>
        have hlt := (hl.keys k (.inl (by rw [h1]; simp))).resolve_left (by simp [hnk k hb])
        rw [hrf k hb] at h2
        exact absurd (hNr id ⟨by omega, by omega⟩) hid
      | true =>
        have hk0 : m.box.lookup k = none := hbox2 k (by rw [h1]; simp)
        have hlk := (hkl k hb).1.resolve_right (by simp [hk0])
        obtain ⟨E, hE⟩ := Option.ne_none_iff_exists'.1 hlk
        obtain ⟨p1, p2, p3, p4⟩ := hpin k E e' hE h1
        rw [hrb k hb] at h2
        subst h2
        rcases hs.own k E hE with ⟨g1, _⟩ | ⟨_, g1⟩
        · rw [p1] at g1; cases g1
        · refine ⟨E, g1, p2, p3, p4, fun b arr hb' hh => ?_⟩
          obtain ⟨a2, k2, q1, q2⟩ := hm'.fr.sz b arr E.et (0, 0) hh
          have hCk : C' k = some b := by
            have h5 := hm'.anc k (List.mem_append_right _ (List.mem_map.2 ⟨_, mem_lookup hE, rfl⟩))
            rw [h5]
            show (if nils k = true then none else C (ρ k)) = some b
            rw [p1]
            exact hb'
          rcases (hm'.own k e' h1).2 with ⟨g2, _⟩ | ⟨b2, a3, g2, g3, _⟩
          · rw [hCk] at g2; cases g2
          · rw [hCk] at g2; cases g2
            rw [q1] at g3
            injection g3 with g3
            injection g3 with _ _ e3
            subst e3
            exact ⟨a2, q1, q2⟩
    · refine ⟨e', h1, rfl, rfl, rfl, fun b arr hb hh => ⟨arr, ?_, rfl⟩⟩
      rw [untouched id b (.inl (by rw [h1]; simp)) h2 hb]; exact hh
  have hok12 : lens = [] → ∀ b, ok1 b → ok2 b := by
    intro h0 b hb
    refine ⟨hb.1, fun h1 => hb.2.1 (.inl h1), fun id hid hcb => ?_⟩
    rcases live' id hid with ⟨k, hk, rfl⟩ | ⟨h1, h2⟩
    · rw [hrC k (hl.keys k hk)] at hcb
      exact hb.2.2 k hk hcb
    · rw [hC2 id (hliveN id h1)] at hcb
      exact hb.2.1 (.inr ⟨id, h1, hcb, by simp [h0], h2⟩)
  have hownr : ∀ k E, (m.box.lookup k ≠ none ∨ k < 1000) → st'.own (r k) = some E → m'.own.lookup k = some E := by
    intro k E hk hE
    rcases own' _ E hE with ⟨k', h1, h2⟩ | ⟨h1, h2⟩
    · have := hrinj k' k (hl.keys k' (.inl (by rw [h1]; simp))) hk h2
      subst this; exact h1
    · cases hb : kp m m' k with
      | false =>
        have hk := hk.resolve_left (by simp [hnk k hb])
        rw [hrf k hb] at h1
        exact absurd (hN k hk) (hliveN _ (.inl (by rw [h1]; simp)))
      | true => exact absurd (hrb k hb).symm (h2 k (hkl k hb).1 (hkl k hb).2)
  have hcell : ∀ c u, (∀ k ∈ c.refs, m.box.lookup k ≠ none ∨ k < 1000) → (lens = [] ∨ c.flat = true) → CRep w' ok1 C' m'.s.own c u → CRep w' ok2 C2 st'.own (c.ren r) u := by
    intro c u hrefs hlf hc
    have hc2 : CRep w' ok2 C' m'.s.own c u := by
      rcases hlf with h0 | hf
      · exact hc.mono (fun _ _ => rfl) (hok12 h0) (fun _ _ => rfl) fun id _ e' he' => ⟨e', he', rfl, rfl, rfl, fun _ arr _ hh => ⟨arr, hh, rfl⟩⟩
      · exact hc.flat hf
    cases c with
    | d x => exact hc2
    | nil => exact hc2
    | own k p =>
      have hk := hrefs k (by simp [Cell.refs])
      rcases hc2 with ⟨g1, g2, g3⟩ | ⟨b, n, c, g1, g2, g3, g4, g5⟩
      · exact .inl ⟨(hrC k hk).trans g1, g2, fun E hE => g3 E (hownr k E hk hE)⟩
      · exact .inr ⟨b, n, c, (hrC k hk).trans g1, g2, g3, g4, fun E hE => g5 E (hownr k E hk hE)⟩
    | box k off =>
      obtain ⟨b, hb, hv⟩ := hc2
      exact ⟨b, (hrC k (hrefs k (by simp [Cell.refs]))).trans hb, hv⟩
    | ep k i off =>
      intro E hE
      have hk := hrefs k (by simp [Cell.refs])
      obtain ⟨b, hb, hv⟩ := hc2 E (hownr k E hk hE)
      exact ⟨b, (hrC k hk).trans hb, hv⟩
    | view k lo n =>
      intro E hE
      have hk := hrefs k (by simp [Cell.refs])
      obtain ⟨p, q, g1, g2, g3, g4⟩ := hc2 E (hownr k E hk hE)
      exact ⟨p, q, g1, g2, g3, fun h0 => let ⟨b, q1, q2⟩ := g4 h0; ⟨b, (hrC k hk).trans q1, q2⟩⟩
    | cp cs => exact hc2
    | fn f caps =>
      obtain ⟨vs, g1, g2, g3⟩ := hc2
      refine ⟨vs, g1, by simpa using g2, fun j id hj => ?_⟩
      rw [List.getElem?_map, Option.map_eq_some_iff] at hj
      obtain ⟨k, hj, rfl⟩ := hj
      obtain ⟨b, hb, hv⟩ := g3 j k hj
      exact ⟨b, (hrC k (hrefs k (List.mem_of_getElem? hj))).trans hb, hv⟩
    | nilp => exact hc2
    | nili => exact hc2
    | undef => trivial
    | nilm => exact hc2
    | nilf => exact hc2
    | mapp k =>
      obtain ⟨b, hb, hv⟩ := hc2
      exact ⟨b, (hrC k (hrefs k (by simp [Cell.refs]))).trans hb, hv⟩
    | mapc ka va l => exact hc2
    | mapg ka va me cl => exact hc2
    | iters s p => exact hc2
    | selfp k t =>
      rcases hc2 with hc2 | ⟨b, hb, hv⟩
      · exact .inl hc2
      · exact .inr ⟨b, (hrC k (hrefs k (by simp [Cell.refs]))).trans hb, hv⟩
    | iterc k me cl rest cu =>
      obtain ⟨b, seen, g1, g2, g3⟩ := hc2
      exact ⟨b, seen, (hrC k (hrefs k (by simp [Cell.refs]))).trans g1, g2, g3⟩
  have hmm2 : Mm B C2 st' w' := by
    refine h.toMm.step h.res hmoves ⟨hm'.fr.os.trans h.fr.os, hm'.fr.tape.trans h.fr.tape, hm'.fr.output.trans h.fr.output, Nat.le_trans h.fr.size hsz, fun b hb hn => ?_, fun b arr et k h0 => by
      obtain ⟨a1, k1, q1, q2⟩ := h.fr.sz b arr et k h0
      obtain ⟨a2, k2, q3, q4⟩ := hm'.fr.sz b a1 et k1 q1
      exact ⟨a2, k2, q3, q4.trans q2⟩⟩ h.ancN ?_ ?_ ?_ ?_ ?_ ?_
    · refine (hm'.fr.block b (Nat.lt_of_lt_of_le hb h.fr.size) fun hw => ?_).trans (h.fr.block b hb hn)
      obtain ⟨k, _, _, hlk, hbk⟩ := hWr b hw
      rcases h.wr _ b hlk hbk with h1 | h1
      · exact hn h1
      · omega
    · intro id E hE
      rcases own' id E hE with ⟨k, h1, rfl⟩ | ⟨h1, h2⟩
      · have hk := hl.keys k (.inl (by rw [h1]; simp))
        refine .inr ?_
        rcases hl.lens with h0 | ⟨h0, _⟩
        · have := (hm'.own k E h1).mono (C' := fun _ => C2 (r k)) (ok' := ok2) (hrC k hk) (fun _ _ => rfl) (fun _ _ => rfl) (hok12 h0)
          exact this
        · have := (hm'.own k E h1).plain (C' := fun _ => C2 (r k)) (ok' := ok2) (hrC k hk) (h0 k E h1)
          exact this
      · exact .inl ⟨h1, fun b hb => untouched id b (.inl (by rw [h1]; simp)) h2 hb⟩
    · intro id cs hcs
      rcases box' id cs hcs with ⟨k, cs', h1, rfl, rfl⟩ | ⟨h1, h2⟩
      · obtain ⟨b, o, arr, g1, g2, g2a, g2b, g3, g4⟩ := hm'.box k cs' h1
        have hkd : Kd o (cs'.map (Cell.ren r)) := by
          rcases g2b with ⟨qa, qt, q1, q2⟩ | ⟨q1, c, rfl, q2⟩
          · refine .inl ⟨qa, qt, q1, fun c hc => ?_⟩
            obtain ⟨c0, hc0, rfl⟩ := List.mem_map.1 hc
            exact ren_atT.2 (q2 c0 hc0)
          · exact .inr ⟨q1, c.ren r, rfl, by rw [(ren_content c r).2]; exact q2⟩
        refine .inr ⟨b, o, arr, (hrC k (hl.keys k (.inr (by rw [h1]; simp)))).trans g1, g2, g2a, hkd, by simpa using g3, fun j c hj => ?_⟩
        rw [List.getElem?_map, Option.map_eq_some_iff] at hj
        obtain ⟨c0, hj, rfl⟩ := hj
        obtain ⟨u, hu, hcu⟩ := g4 j c0 hj
        have hmem := List.mem_of_getElem? hj
        exact ⟨u, hu, hcell c0 u (hl.cells k cs' c0 h1 hmem) (hl.lens.imp id fun h3 => h3.2.2 k cs' c0 h1 hmem) hcu⟩
      · exact .inl ⟨h1, fun b hb => untouched id b (.inr (by rw [h1]; simp)) h2 hb⟩
    · intro id
      refine Classical.byContradiction fun hno => ?_
      have hno' : st'.own id ≠ none ∧ st'.box id ≠ none := ⟨fun h0 => hno (.inl h0), fun h0 => hno (.inr h0)⟩
      obtain ⟨E, hE⟩ := Option.ne_none_iff_exists'.1 hno'.1
      obtain ⟨cs, hcs⟩ := Option.ne_none_iff_exists'.1 hno'.2
      rcases own' id E hE with ⟨k, h1, h2⟩ | ⟨h1, h2⟩ <;> rcases box' id cs hcs with ⟨k', cs', h3, h4, _⟩ | ⟨h3, h4⟩
      · have := hrinj k k' (hl.keys k (.inl (by rw [h1]; simp))) (hl.keys k' (.inr (by rw [h3]; simp))) (h2.trans h4.symm)
        subst this
        rcases hm'.excl k with h5 | h5
        · rw [show m'.own.lookup k = none from h5] at h1; cases h1
        · rw [show m'.box.lookup k = none from h5] at h3; cases h3
      · cases hb : kp m m' k with
        | false =>
          have hlt := (hl.keys k (.inl (by rw [h1]; simp))).resolve_left (by simp [hnk k hb])
          rw [hrf k hb] at h2
          exact hliveN id (.inr (by rw [h3]; simp)) (hNr id ⟨by omega, by omega⟩)
        | true => exact h4 k (hkl k hb).1 (hkl k hb).2 ((hrb k hb).symm.trans h2)
      · cases hb : kp m m' k' with
        | false =>
          have hlt := (hl.keys k' (.inr (by rw [h3]; simp))).resolve_left (by simp [hnk k' hb])
          rw [hrf k' hb] at h4
          exact hliveN id (.inl (by rw [h1]; simp)) (hNr id ⟨by omega, by omega⟩)
        | true => exact h2 k' (hkl k' hb).1 (hkl k' hb).2 ((hrb k' hb).symm.trans h4)
      · rcases h.excl id with h5 | h5
        · rw [h1] at h5; cases h5
        · rw [h3] at h5; cases h5
    · have mixed : ∀ k id b, m'.live k → Live st id → (∀ k, m.live k → nils k = false → ρ k ≠ id) → C' k = some b → C id = some b → False := by
        intro k id b hk hli hu hb hb'
        rcases hkC k b hk hb with ⟨k', g1, g2, g3, g4⟩ | g1
        · exact hu k' g1 g2 (h.inj _ _ b g3 hli g4 hb')
        · have := h.block_lt hli hb'; omega
      intro id id' b hid hid' hb hb'
      rcases live' id hid with ⟨k, h1, rfl⟩ | ⟨h1, h2⟩ <;> rcases live' id' hid' with ⟨k', h3, rfl⟩ | ⟨h3, h4⟩
      · rw [hrC k (hl.keys k h1)] at hb; rw [hrC k' (hl.keys k' h3)] at hb'
        rw [hm'.inj k k' b h1 h3 hb hb']
      · rw [hrC k (hl.keys k h1)] at hb; rw [hC2 _ (hliveN _ h3)] at hb'
        exact (mixed k id' b h1 h3 h4 hb hb').elim
      · rw [hrC k' (hl.keys k' h3)] at hb'; rw [hC2 _ (hliveN _ h1)] at hb
        exact (mixed k' id b h3 h1 h2 hb' hb).elim
      · rw [hC2 _ (hliveN _ h1)] at hb; rw [hC2 _ (hliveN _ h3)] at hb'
        exact h.inj id id' b h1 h3 hb hb'
    · intro id b hid hb
      rcases live' id hid with ⟨k, h1, rfl⟩ | ⟨h1, h2⟩
      · rw [hrC k (hl.keys k h1)] at hb
        rcases hkC k b h1 hb with ⟨k', _, _, g3, g4⟩ | g1
        · exact h.wr _ b g3 g4
        · exact .inr (Nat.le_trans h.fr.size g1)
      · rw [hC2 _ (hliveN _ h1)] at hb
        exact h.wr id b h1 hb
    · intro id b hid hb
      rcases live' id hid with ⟨k, h1, rfl⟩ | ⟨h1, h2⟩
      · rw [hrC k (hl.keys k h1)] at hb
        exact fun hbad => hm'.nb k b h1 hb (.inl hbad)
      · rw [hC2 _ (hliveN _ h1)] at hb
        exact h.nb id b h1 hb
  refine hK v w' C2 ⟨hmm2, hmoves.keep, ?_, ?_, ?_, fun _ hi => hi.1⟩
  · exact TRep.ren hv fun c u hc hr => hcell c u (fun k hk => hl.refs k (mem_refs hc hk)) (hl.lens.imp id fun h3 => h3.2.1 c hc) hr
  · refine ⟨fun id hi => ?_, fun id hi => ?_, fun id hi s => h.res.t id hi.1 s, fun id hi j cs c hj hc hr => ?_⟩
    · cases hE : st'.own id with
      | none => rfl
      | some E =>
        rcases own' id E hE with ⟨k, h1, h2⟩ | ⟨h1, h2⟩
        · exact absurd hi (h2 ▸ hrN k (hl.keys k (.inl (by rw [h1]; simp))))
        · rw [h.res.own id hi.1] at h1; cases h1
    · cases hE : st'.box id with
      | none => rfl
      | some E =>
        rcases box' id E hE with ⟨k, _, h1, h2, _⟩ | ⟨h1, h2⟩
        · exact absurd hi (h2 ▸ hrN k (hl.keys k (.inr (by rw [h1]; simp))))
        · rw [h.res.box id hi.1] at h1; cases h1
    · rcases box' j cs hj with ⟨k, cs', h1, _, rfl⟩ | ⟨h1, h2⟩
      · obtain ⟨c0, hc0, rfl⟩ := List.mem_map.1 hc
        rw [refs_ren] at hr
        obtain ⟨k', hk', rfl⟩ := List.mem_map.1 hr
        exact hrN k' (hl.cells k cs' c0 h1 hc0 k' hk') hi
      · exact h.res.cell id hi.1 j cs c h1 hc hr
  · intro id hid hn
    have hid' : id ∈ (tv.ren r).refs := hid
    rw [refs_renT] at hid'
    obtain ⟨k', hk', rfl⟩ := List.mem_map.1 hid'
    exact hrN k' (hl.refs k' hk') hn
end
end Go.Eng
