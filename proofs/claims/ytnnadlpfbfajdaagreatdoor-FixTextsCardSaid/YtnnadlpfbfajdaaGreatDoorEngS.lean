/-
Regions whose order is drawn: whatever order, the state is that of the order in which they are written.
-/
import Derived.Test.YtnnadlpfbfajdaaGreatDoorEngR
namespace Go.Eng
open Go
set_option linter.unusedVariables false
set_option linter.unusedSimpArgs false

structure Agree (T U : List Nat) (σ st : St) : Prop where
  t : ∀ s ∈ T, σ.t s = st.t s
  m : ∀ id ∈ U, σ.own id = st.own id ∧ σ.box id = st.box id

def Stable (V : St → Prop) (P : Program) (ops : Array Oper) (o : Oper) (base : Nat) (st : St) (e : Eff) (U : List Nat) : Prop := ∀ σ, Agree (o.looksAt ops) U σ st → V σ → Does P o base σ e
def opUses (st : St) (o : Op) : List Nat := match o with
  | .move _ => []
  | .assign _ => []
  | o => o.operands.toList.flatMap fun x => ((st.ev x).map TV.refs).getD []

section
variable {P : Program} {Γ : Types} {ops : Array Oper} {o : Oper} {base : Nat} {st σ : St} {e : Eff} {U : List Nat} {V : St → Prop}

theorem agree_ev (h : Agree (o.looksAt ops) U σ st) : ∀ x ∈ o.op.operands.toList, σ.ev x = st.ev x := by
  intro x hx
  cases x with
  | tmp t =>
    have : t ∈ o.looksAt ops := List.mem_append_left _ (List.mem_filterMap.2 ⟨.tmp t, hx, rfl⟩)
    simp only [St.ev, h.t t this]
  | _ => rfl

theorem agree_guard (h : Agree (o.looksAt ops) U σ st) : guardB ops o σ = guardB ops o st := by
  unfold guardB
  split
  · rfl
  · rename_i j want hg
    split
    · rfl
    · rename_i t ht
      have : t ∈ o.looksAt ops := List.mem_append_right _ (by rw [hg]; simp [ht])
      rw [h.t t this]

theorem stable_eff (hΓ : TypesOk P Γ) (he : aeff Γ base o.op st = some e) (hU : ((opUses st o.op).all fun id => U.elem id) = true) : Stable V P ops o base st e U := by
  intro σ h _
  refine does_eff hΓ ?_
  have hev := agree_ev h
  have hm := h.m
  clear h
  generalize o.op = op at he hU hev ⊢
  have gen : (∀ id ∈ op.operands.toList.flatMap (fun x => ((st.ev x).map TV.refs).getD []), U.elem id = true) → aeff Γ base op σ = some e := fun hU => by
    rw [aeff_congr (σ := σ) (st := st) hev fun x hx tv htv id hid => hm id ?_]
    · exact he
    · have h1 : id ∈ op.operands.toList.flatMap (fun x => ((st.ev x).map TV.refs).getD []) := List.mem_flatMap.2 ⟨x, hx, by rw [htv]; exact hid⟩
      simpa using hU id h1
  cases op with
  | move x => simp only [aeff] at he ⊢; rw [hev x (by simp [Op.operands])]; exact he
  | assign x => simp only [aeff] at he ⊢; rw [hev x (by simp [Op.operands])]; exact he
  | _ => exact gen fun id hid => List.all_eq_true.1 hU id hid

theorem stable_call {f : Operand} {args : Array Operand} {tys : Array TypeId} {g : FuncId} {caps : List Nat} {tvs al : List TV} {m m' : Mem} {tv : TV} {ρ : Nat → Nat} {nils : Nat → Bool} {lens : List Nat}
    (ho : o.op = .call ⟨.value f, args, tys⟩) (hf : st.ev f = some (.c (.fn g caps))) (ha : st.evs args.toList = some tvs) (hs : Sees (· ∈ lens) st ρ nils m)
    (hargs : L2 (TVSee (CellSee (· ∈ lens) st ρ nils m)) (tvs ++ caps.map fun id => .c (.box id 0)) al)
    (hH : Holds P g al m (fun tv' m'' => tv' = tv ∧ m'' = m')) (hl : Left m m' lens tv) (hpin : Pins m m' nils) (hU : ((callE m m' ρ nils lens base tv).use.all fun id => U.elem id) = true) :
    Stable V P ops o base st (callE m m' ρ nils lens base tv) U := by
  intro σ h _
  have hev := agree_ev h
  have hU' : ∀ id ∈ (m.own.map fun p => ρ p.1) ++ (m.box.map fun p => ρ p.1) ++ lens, σ.own id = st.own id ∧ σ.box id = st.box id := fun id hid => h.m id (by simpa using List.all_eq_true.1 hU id hid)
  have hopsf : f ∈ o.op.operands.toList := by rw [ho]; simp [Op.operands, Call.operands]
  have hopsa : ∀ x ∈ args.toList, x ∈ o.op.operands.toList := fun x hx => by rw [ho]; simp [Op.operands, Call.operands] at hx ⊢; exact .inr hx
  have hcell : ∀ T A, CellSee (· ∈ lens) st ρ nils m T A → CellSee (· ∈ lens) σ ρ nils m T A := by
    rintro T A (h1 | h1 | ⟨id, p, xs, us, h1, h2, h3, h4, h5⟩ | h1)
    · exact .inl h1
    · exact .inr (.inl h1)
    · refine .inr (.inr (.inl ⟨id, p, xs, us, h1, h2, h3, ?_, h5⟩))
      rw [elems_congr (st := st)]
      · exact h4
      · intro id' hid'
        subst h2
        have : id' = id := by simpa [TV.refs, T1.refs, Cell.refs] using hid'
        subst this
        exact hU' id' (List.mem_append_right _ h1)
    · exact .inr (.inr (.inr h1))
  have hl2 : ∀ {cs cs' : List Cell}, L2 (CellSee (· ∈ lens) st ρ nils m) cs cs' → L2 (CellSee (· ∈ lens) σ ρ nils m) cs cs' := by
    intro cs
    induction cs with
    | nil => intro cs' h; cases cs' <;> exact h
    | cons c cs ih => intro cs' h; cases cs' with
      | nil => exact h
      | cons c' cs' => exact ⟨hcell _ _ h.1, ih h.2⟩
  have ht1 : ∀ {x y : T1}, T1See (CellSee (· ∈ lens) st ρ nils m) x y → T1See (CellSee (· ∈ lens) σ ρ nils m) x y := by
    intro x y h
    cases x <;> cases y <;> first | exact hcell _ _ h | exact hl2 h | exact h
  have hlt1 : ∀ {cs cs' : List T1}, L2 (T1See (CellSee (· ∈ lens) st ρ nils m)) cs cs' → L2 (T1See (CellSee (· ∈ lens) σ ρ nils m)) cs cs' := by
    intro cs
    induction cs with
    | nil => intro cs' h; cases cs' <;> exact h
    | cons c cs ih => intro cs' h; cases cs' with
      | nil => exact h
      | cons c' cs' => exact ⟨ht1 h.1, ih h.2⟩
  have htv : ∀ {x y : TV}, TVSee (CellSee (· ∈ lens) st ρ nils m) x y → TVSee (CellSee (· ∈ lens) σ ρ nils m) x y := by
    intro x y h
    unfold TVSee at h ⊢
    split at h
    · trivial
    · exact ht1 h
    · exact hlt1 h
    · exact h.elim
  have hltv : ∀ {cs cs' : List TV}, L2 (TVSee (CellSee (· ∈ lens) st ρ nils m)) cs cs' → L2 (TVSee (CellSee (· ∈ lens) σ ρ nils m)) cs cs' := by
    intro cs
    induction cs with
    | nil => intro cs' h; cases cs' <;> exact h
    | cons c cs ih => intro cs' h; cases cs' with
      | nil => exact h
      | cons c' cs' => exact ⟨htv h.1, ih h.2⟩
  refine does_call (f := f) (args := args) (tys := tys) (g := g) (caps := caps) (tvs := tvs) (al := al) ho ((hev f hopsf).trans hf) ((evs_congr fun x hx => hev x (hopsa x hx)).trans ha) ⟨?_, ?_, hs.inj, hs.excl⟩ (hltv hargs) hH hl hpin
  · intro k E hE
    refine (hs.own k E hE).imp id fun ⟨h1, h2⟩ => ⟨h1, ?_⟩
    rw [(hU' (ρ k) (List.mem_append_left _ (List.mem_append_left _ (List.mem_map.2 ⟨_, mem_lookup hE, rfl⟩)))).1]
    exact h2
  · intro k cs hcs
    obtain ⟨h1, cs0, h2, h3⟩ := hs.box k cs hcs
    refine ⟨h1, cs0, ?_, hl2 h3⟩
    rw [(hU' (ρ k) (List.mem_append_left _ (List.mem_append_right _ (List.mem_map.2 ⟨_, mem_lookup hcs, rfl⟩)))).2]
    exact h2
end

/-! ### Steps -/
abbrev Rec := Oper × Option Eff × List Nat
def stepX (r : Rec) (st : St) : St :=
  match r.2.1 with
  | none => st.put r.1.dst (.tup [])
  | some e => st.app r.1.dst e
def Rec.v (r : Rec) : TV := match r.2.1 with
  | none => .tup []
  | some e => e.v
def Rec.ou (r : Rec) : List (Nat × Option OwnB) := match r.2.1 with
  | none => []
  | some e => e.ou
def Rec.bu (r : Rec) : List (Nat × Option (List Cell)) := match r.2.1 with
  | none => []
  | some e => e.bu
def Rec.wr (r : Rec) : List Nat := r.ou.map Prod.fst ++ r.bu.map Prod.fst
def updO {α : Type} (m : Nat → α) (d : Option Nat) (v : α) : Nat → α := match d with
  | none => m
  | some d => upd m d v

theorem stepX_eq (r : Rec) (st : St) : stepX r st = ⟨updO st.t r.1.dst r.v, updL st.own r.ou, updL st.box r.bu, st.next⟩ := by
  obtain ⟨o, x, U⟩ := r
  cases x with
  | none => simp only [stepX, Rec.v, Rec.ou, Rec.bu, St.put, updO, updL]; split <;> simp_all
  | some e => simp only [stepX, Rec.v, Rec.ou, Rec.bu, St.app, St.put, St.mem, updO]; split <;> simp_all

theorem updL_not {α : Type} {l : List (Nat × α)} {m : Nat → α} {k : Nat} (h : k ∉ l.map Prod.fst) : updL m l k = m k := by
  rcases updL_spec l m k with h1 | ⟨v, h1, _⟩
  · exact h1.1
  · exact absurd (List.mem_map.2 ⟨_, h1, rfl⟩) h
theorem updL_cg {α : Type} : ∀ {l : List (Nat × α)} {m m' : Nat → α} {k : Nat}, m k = m' k → updL m l k = updL m' l k
  | [], _, _, _, h => h
  | p :: l, m, m', k, h => updL_cg (l := l) (by unfold upd; split <;> simp_all)
theorem updL_comm {α : Type} {l l' : List (Nat × α)} (m : Nat → α) (h : ∀ k ∈ l.map Prod.fst, k ∉ l'.map Prod.fst) : updL (updL m l) l' = updL (updL m l') l := by
  funext k
  by_cases hk : k ∈ l.map Prod.fst
  · rw [updL_not (h k hk)]
    exact updL_cg (updL_not (h k hk)).symm
  · rw [updL_not (l := l) hk]
    exact updL_cg (updL_not hk)

/-- Two operations that may come in either order. -/
def Rec.indep (ops : Array Oper) (a b : Rec) : Bool := a.1.apart ops b.1 && (a.wr.all fun x => !(b.2.2.elem x || b.wr.elem x)) && (b.wr.all fun x => !a.2.2.elem x)

theorem updO_comm {α : Type} (m : Nat → α) {x y : Option Nat} (v u : α) (h : ∀ d, x = some d → y ≠ some d) : updO (updO m x v) y u = updO (updO m y u) x v := by
  cases x with
  | none => rfl
  | some d => cases y with
    | none => rfl
    | some e => exact upd_comm m v u (fun he => h d rfl (by rw [he]))

theorem Rec.comm {ops : Array Oper} {a b : Rec} (h : a.indep ops b = true) (st : St) : stepX a (stepX b st) = stepX b (stepX a st) := by
  simp only [Rec.indep, Bool.and_eq_true] at h
  obtain ⟨⟨h1, h2⟩, h3⟩ := h
  obtain ⟨g1, g2, g3⟩ := Oper.apart_spec h1
  have hw : ∀ k ∈ a.wr, k ∉ b.wr := fun k hk hb => by
    have := List.all_eq_true.1 h2 k hk
    simp [hb] at this
  rw [stepX_eq, stepX_eq, stepX_eq, stepX_eq]
  simp only
  congr 1
  · exact (updO_comm _ _ _ g2).symm
  · exact (updL_comm _ fun k hk hb => hw k (List.mem_append_left _ hk) (List.mem_append_left _ hb)).symm
  · exact (updL_comm _ fun k hk hb => hw k (List.mem_append_right _ hk) (List.mem_append_right _ hb)).symm

/-! ### The state behind some of the operations -/
def stOf (L : Nat → Bool) : Nat → List Rec → St → St
  | _, [], st => st
  | k, r :: l, st => stOf L (k + 1) l (if L k then stepX r st else st)

theorem stOf_congr {L L' : Nat → Bool} : ∀ {l : List Rec} {k : Nat} {st : St}, (∀ j, k ≤ j → j < k + l.length → L j = L' j) → stOf L k l st = stOf L' k l st
  | [], _, _, _ => rfl
  | r :: l, k, st, h => by
    simp only [stOf]
    rw [h k (Nat.le_refl _) (by simp), stOf_congr fun j h1 h2 => h j (by omega) (by simp; omega)]

theorem stOf_comm {ops : Array Oper} {L : Nat → Bool} {r : Rec} : ∀ {l : List Rec} {k : Nat} {st : St}, (∀ j r', l[j]? = some r' → L (k + j) = true → r.indep ops r' = true) → stepX r (stOf L k l st) = stOf L k l (stepX r st)
  | [], _, _, _ => rfl
  | r' :: l, k, st, h => by
    simp only [stOf]
    rw [stOf_comm fun j r'' hj hL => h (j + 1) r'' (by simpa using hj) (by rw [← hL]; congr 1; omega)]
    by_cases hk : L k
    · simp only [hk, if_true]
      rw [Rec.comm (h 0 r' rfl (by simpa using hk))]
    · simp [hk]

theorem stOf_insert {ops : Array Oper} {L : Nat → Bool} {r : Rec} {i : Nat} : ∀ {l : List Rec} {k j : Nat} {st : St}, l[j]? = some r → i = k + j → L i = false →
    (∀ j' r', l[j']? = some r' → i < k + j' → L (k + j') = true → r.indep ops r' = true) → stOf (fun n => L n || n == i) k l st = stepX r (stOf L k l st)
  | [], _, _, _, h, _, _, _ => by simp at h
  | r' :: l, k, 0, st, h, hi, hL, hc => by
    simp at h; subst h
    have hik : i = k := by omega
    subst hik
    simp only [stOf, hL]
    simp only [beq_self_eq_true, Bool.or_true, if_true]
    rw [stOf_comm (ops := ops) fun j r'' hj hLj => hc (j + 1) r'' (by simpa using hj) (by omega) (by rw [← hLj]; congr 1; omega)]
    refine stOf_congr fun j h1 h2 => ?_
    have : (j == i) = false := by simp; omega
    simp [this]
  | r' :: l, k, j + 1, st, h, hi, hL, hc => by
    simp only [stOf]
    have hk : (k == i) = false := by simp; omega
    simp only [hk, Bool.or_false]
    exact stOf_insert (by simpa using h) (by omega) hL fun j' r'' hj hlt hLj => hc (j' + 1) r'' (by simpa using hj) (by omega) (by rw [← hLj]; congr 1; omega)

theorem updO_ne {α : Type} {m : Nat → α} {d : Option Nat} {v : α} {s : Nat} (h : d ≠ some s) : updO m d v s = m s := by
  cases d with
  | none => rfl
  | some d => exact upd_ne _ _ (fun he => h (by rw [he]))
theorem updO_cg {α : Type} {m m' : Nat → α} {d : Option Nat} {v : α} {s : Nat} (h : m s = m' s) : updO m d v s = updO m' d v s := by
  cases d with
  | none => exact h
  | some d => show upd m d v s = upd m' d v s; unfold upd; split <;> simp_all

theorem stOf_agree {T U : List Nat} {L L' : Nat → Bool} : ∀ {l : List Rec} {k : Nat} {st st' : St}, Agree T U st st' →
    (∀ j r, l[j]? = some r → L (k + j) ≠ L' (k + j) → (∀ d, r.1.dst = some d → d ∉ T) ∧ ∀ id ∈ r.wr, id ∉ U) → Agree T U (stOf L k l st) (stOf L' k l st')
  | [], _, _, _, h, _ => h
  | r :: l, k, st, st', h, hd => by
    simp only [stOf]
    refine stOf_agree ?_ fun j r' hj hL => hd (j + 1) r' (by simpa using hj) (by intro h; exact hL (by rw [show k + 1 + j = k + (j + 1) by omega]; exact h))
    have skip : ∀ st, (∀ d, r.1.dst = some d → d ∉ T) → (∀ id ∈ r.wr, id ∉ U) → Agree T U (stepX r st) st := fun st h1 h2 => by
      rw [stepX_eq]
      exact ⟨fun s hs => updO_ne (fun hd => h1 s hd hs), fun id hid => ⟨updL_not fun hm => h2 id (List.mem_append_left _ hm) hid, updL_not fun hm => h2 id (List.mem_append_right _ hm) hid⟩⟩
    by_cases hk : L k <;> by_cases hk' : L' k
    · simp only [hk, hk', if_true]
      rw [stepX_eq, stepX_eq]
      exact ⟨fun s hs => updO_cg (h.t s hs), fun id hid => ⟨updL_cg (h.m id hid).1, updL_cg (h.m id hid).2⟩⟩
    · obtain ⟨h1, h2⟩ := hd 0 r rfl (by simp [hk, hk'])
      have := skip st h1 h2
      simp only [hk, hk', if_true]
      exact ⟨fun s hs => (this.t s hs).trans (h.t s hs), fun id hid => ⟨(this.m id hid).1.trans (h.m id hid).1, (this.m id hid).2.trans (h.m id hid).2⟩⟩
    · obtain ⟨h1, h2⟩ := hd 0 r rfl (by simp [hk, hk'])
      have := skip st' h1 h2
      simp only [hk, hk', if_true]
      exact ⟨fun s hs => (h.t s hs).trans (this.t s hs).symm, fun id hid => ⟨(h.m id hid).1.trans (this.m id hid).1.symm, (h.m id hid).2.trans (this.m id hid).2.symm⟩⟩
    · simp only [hk, hk']
      exact h

/-! ### The chain in the written order -/
def StepOk (V : St → Prop) (P : Program) (ops : Array Oper) (nt base k : Nat) (r : Rec) (st : St) : Prop :=
  (∀ d, r.1.dst = some d → d < nt) ∧ match r.2.1 with
  | none => guardB ops r.1 st = some false
  | some e => guardB ops r.1 st = some true ∧ Stable V P ops r.1 (base + 1000 * k) st e r.2.2
def Chain (V : St → Prop) (P : Program) (ops : Array Oper) (nt base : Nat) (K : St → Prop) : Nat → List Rec → St → Prop
  | _, [], st => K st
  | k, r :: l, st => StepOk V P ops nt base k r st ∧ Chain V P ops nt base K (k + 1) l (stepX r st)

section
variable {P : Program} {ops : Array Oper} {nt base : Nat} {K : St → Prop} {V : St → Prop}
theorem Chain.final : ∀ {l : List Rec} {k : Nat} {st : St}, Chain V P ops nt base K k l st → K (stOf (fun _ => true) k l st)
  | [], _, _, h => h
  | r :: l, k, st, h => by
    have := Chain.final h.2
    simpa [stOf] using this
theorem Chain.get : ∀ {l : List Rec} {k j : Nat} {r : Rec} {st : St}, Chain V P ops nt base K k l st → l[j]? = some r → StepOk V P ops nt base (k + j) r (stOf (fun n => decide (n < k + j)) k l st)
  | [], _, _, _, _, _, h => by simp at h
  | r' :: l, k, 0, r, st, h, hj => by
    simp at hj; subst hj
    have : stOf (fun n => decide (n < k + 0)) k (r' :: l) st = st := by
      have h1 : ∀ (l : List Rec) (k' : Nat) (st : St), k ≤ k' → stOf (fun n => decide (n < k + 0)) k' l st = st := by
        intro l
        induction l with
        | nil => intro _ _ _; rfl
        | cons r l ih => intro k' st hk; simp only [stOf]; rw [ih (k' + 1) _ (by omega)]; simp; omega
      exact h1 _ _ _ (Nat.le_refl _)
    rw [this]
    exact h.1
  | r' :: l, k, j + 1, r, st, h, hj => by
    have := Chain.get h.2 (j := j) (r := r) (by simpa using hj)
    simp only [stOf]
    rw [show k + (j + 1) = k + 1 + j by omega]
    simp only [show k < k + 1 + j by omega, decide_true, if_true]
    exact this

/-- The orders that are bound (a table, proved by the edges), and that the others may be turned. -/
def orderB (ops : Array Oper) (l : List Rec) (pt : List (List Nat)) : Bool :=
  ops.toList.length == l.length && pt.length == l.length &&
  ((List.range l.length).all fun i => match ops[i]?, pt[i]? with
    | some o, some ps => (o.after.toList.all fun e => !Region.binds .any e || Nat.blt e.on i) && ps.all fun j => o.after.toList.any fun e => Region.binds .any e && (e.on == j || (pt.getD e.on []).elem j)
    | _, _ => false) &&
  ((List.range l.length).all fun i => (List.range l.length).all fun j => i == j || (pt.getD i []).elem j || (pt.getD j []).elem i || match l[i]?, l[j]? with
    | some a, some b => a.indep ops b
    | _, _ => false)

def Lof (listed : Array Bool) (k : Nat) : Bool := listed.getD k false

theorem any_sound {A : Nat} {B : Base} {l : List Rec} {pt : List (List Nat)} {st : St} (hops : ∀ (j : Nat) (r : Rec), l[j]? = some r → ops[j]? = some r.1) (hord : orderB ops l pt = true) (hch : Chain V P ops nt base K 0 l st) (hV : ∀ L, V (stOf L 0 l st))
    {Q : Exit → Act → World → Prop} (hQ : ∀ (st' : St) (C' : Nat → Option Nat) (a' : Act) (w' : World), K st' → Inv B (From (base + 1000 * ops.size)) nt C' st' a' w' → Q .normal a' w') :
    ∀ (fuel : Nat) (listed : Array Bool) (C : Nat → Option Nat) (a : Act) (w : World), listed.size = ops.size → (∀ i, Lof listed i = true → ∀ j ∈ pt.getD i [], Lof listed j = true) →
      (List.range ops.size).countP (fun i => !Lof listed i) ≤ fuel →
      Inv B (fun id => base ≤ id ∧ ∀ k, Lof listed k = true → ¬ (base + 1000 * k ≤ id ∧ id < base + 1000 * k + 1000)) nt C (stOf (Lof listed) 0 l st) a w → wpAny P .any ops Q fuel listed a w := by
  simp only [orderB, Bool.and_eq_true, beq_iff_eq] at hord
  obtain ⟨⟨⟨hlen, hptlen⟩, hord1⟩, hord2⟩ := hord
  have hlen' : ops.size = l.length := by simpa using hlen
  have ord1 : ∀ (i : Nat) (o : Oper), ops[i]? = some o → (∀ e ∈ o.after, Region.binds .any e = true → e.on < i) ∧
      ∀ j ∈ pt.getD i [], ∃ e ∈ o.after, Region.binds .any e = true ∧ (e.on = j ∨ j ∈ pt.getD e.on []) := by
    intro i o hi
    have hilt : i < l.length := by rw [← hlen']; exact (Array.getElem?_eq_some_iff.1 hi).1
    have h1 := List.all_eq_true.1 hord1 i (List.mem_range.2 hilt)
    rw [hi] at h1
    have hp : pt[i]? = some (pt.getD i []) := by
      rw [List.getD_eq_getElem?_getD, List.getElem?_eq_getElem (by omega)]; rfl
    rw [hp] at h1
    simp only [Bool.and_eq_true] at h1
    refine ⟨fun e he hb => ?_, fun j hj => ?_⟩
    · have := List.all_eq_true.1 h1.1 e (by simpa using he)
      simpa [hb, Nat.blt_eq] using this
    · have := List.all_eq_true.1 h1.2 j hj
      obtain ⟨e, he, hx⟩ := List.any_eq_true.1 this
      simp only [Bool.and_eq_true, Bool.or_eq_true, beq_iff_eq, List.elem_eq_mem, decide_eq_true_eq] at hx
      exact ⟨e, by simpa using he, hx.1, hx.2⟩
  have ord2 : ∀ (i j : Nat) (a b : Rec), l[i]? = some a → l[j]? = some b → i ≠ j → j ∉ pt.getD i [] → i ∉ pt.getD j [] → a.indep ops b = true := by
    intro i j a b hi hj hne h1 h2
    have hil := (List.getElem?_eq_some_iff.1 hi).1
    have hjl := (List.getElem?_eq_some_iff.1 hj).1
    have h3 := List.all_eq_true.1 (List.all_eq_true.1 hord2 i (List.mem_range.2 hil)) j (List.mem_range.2 hjl)
    rw [hi, hj] at h3
    simp only [Bool.or_eq_true, beq_iff_eq, List.elem_eq_mem, decide_eq_true_eq] at h3
    rcases h3 with ((h3 | h3) | h3) | h3
    · exact absurd h3 hne
    · exact absurd h3 h1
    · exact absurd h3 h2
    · exact h3
  have done : ∀ (listed : Array Bool) (C : Nat → Option Nat) (a : Act) (w : World), listed.size = ops.size → Region.ready .any ops listed = [] →
      Inv B (fun id => base ≤ id ∧ ∀ k, Lof listed k = true → ¬ (base + 1000 * k ≤ id ∧ id < base + 1000 * k + 1000)) nt C (stOf (Lof listed) 0 l st) a w → Q .normal a w := by
    intro listed C a w hsz hr hi
    have hall : ∀ i, i < ops.size → Lof listed i = true := by
      intro i
      induction i using Nat.strongRecOn with
      | _ i ih =>
        intro hlt
        refine Classical.byContradiction fun hno => ?_
        have hmem : i ∈ Region.ready .any ops listed := by
          refine mem_ready.2 ⟨?_, ops[i], Array.getElem?_eq_getElem hlt, fun e he hb => ?_⟩
          · have : Lof listed i = false := by simpa using hno
            unfold Lof at this
            rw [Array.getD_eq_getD_getElem?] at this ⊢
            rw [Array.getElem?_eq_getElem (by omega)] at this ⊢
            exact this
          · have h1 := (ord1 i _ (Array.getElem?_eq_getElem hlt)).1 e he hb
            exact ih e.on h1 (by omega)
        rw [hr] at hmem
        cases hmem
    have hst : stOf (Lof listed) 0 l st = stOf (fun _ => true) 0 l st := stOf_congr fun j _ hj => hall j (by omega)
    rw [hst] at hi
    refine hQ _ C a w hch.final (hi.sub fun id hid => ?_)
    have h2 : base + 1000 * ops.size ≤ id := hid
    refine ⟨by omega, fun k hk => ?_⟩
    have hk' : k < ops.size := by
      refine Classical.byContradiction fun hge => ?_
      unfold Lof at hk
      rw [Array.getD_eq_getD_getElem?, Array.getElem?_eq_none (by omega)] at hk
      cases hk
    have : 1000 * (k + 1) ≤ 1000 * ops.size := Nat.mul_le_mul_left _ hk'
    omega
  intro fuel
  induction fuel with
  | zero =>
    intro listed C a w hsz hcl hcnt hi
    have hr : Region.ready .any ops listed = [] := by
      cases hrr : Region.ready .any ops listed with
      | nil => rfl
      | cons i rs =>
        have hmem : i ∈ Region.ready .any ops listed := by rw [hrr]; simp
        obtain ⟨h1, o, h2, _⟩ := mem_ready.1 hmem
        have hlt := (Array.getElem?_eq_some_iff.1 h2).1
        have h0 : (List.range ops.size).countP (fun i => !Lof listed i) = 0 := by omega
        rw [List.countP_eq_zero] at h0
        have := h0 i (List.mem_range.2 hlt)
        simp only [Bool.not_eq_true, Bool.not_eq_false'] at this
        unfold Lof at this
        rw [Array.getD_eq_getD_getElem?, Array.getElem?_eq_getElem (by omega)] at h1 this
        simp only [Option.getD_some] at h1 this
        rw [h1] at this; cases this
    exact ⟨hr, done listed C a w hsz hr hi⟩
  | succ fuel ih =>
    intro listed C a w hsz hcl hcnt hi
    refine ⟨fun hr => done listed C a w hsz hr hi, fun i hmem => ?_⟩
    obtain ⟨h1, o, ho, hafter⟩ := mem_ready.1 hmem
    have hlt := (Array.getElem?_eq_some_iff.1 ho).1
    have hLi : Lof listed i = false := by
      unfold Lof
      rw [Array.getD_eq_getD_getElem?, Array.getElem?_eq_getElem (by omega)] at h1 ⊢
      exact h1
    have hl : ∃ r, l[i]? = some r := ⟨l[i]'(by omega), List.getElem?_eq_getElem (by omega)⟩
    obtain ⟨r, hr⟩ := hl
    have hor := hops i r hr
    rw [ho] at hor
    injection hor with hor
    -- what is bound to come ahead of it has come
    have hpre : ∀ j ∈ pt.getD i [], Lof listed j = true := by
      intro j hj
      obtain ⟨e, he, hb, h2⟩ := (ord1 i o ho).2 j hj
      have h3 : Lof listed e.on = true := hafter e he hb
      rcases h2 with rfl | h2
      · exact h3
      · exact hcl _ h3 j h2
    have hok := hch.get hr
    rw [Nat.zero_add] at hok
    have hag : Agree (o.looksAt ops) r.2.2 (stOf (Lof listed) 0 l st) (stOf (fun n => decide (n < i)) 0 l st) := by
      refine stOf_agree ⟨fun _ _ => rfl, fun _ _ => ⟨rfl, rfl⟩⟩ fun j r' hj hne => ?_
      rw [Nat.zero_add] at hne
      have hij : i ≠ j := by
        rintro rfl
        rw [hLi] at hne
        simp at hne
      have hind : r.indep ops r' = true := by
        refine ord2 i j r r' hr hj hij (fun hm => ?_) (fun hm => ?_)
        · have := hpre j hm
          rw [this] at hne
          have : ¬ j < i := by intro h; simp [h] at hne
          obtain ⟨e, he, hb, h2⟩ := (ord1 i o ho).2 j hm
          have hlt2 : ∀ (i : Nat), ∀ j ∈ pt.getD i [], j < i := by
            intro i
            induction i using Nat.strongRecOn with
            | _ i ihh =>
              intro j hj
              by_cases hin : i < ops.size
              · obtain ⟨e, he, hb, h2⟩ := (ord1 i _ (Array.getElem?_eq_getElem hin)).2 j hj
                have h4 := (ord1 i _ (Array.getElem?_eq_getElem hin)).1 e he hb
                rcases h2 with rfl | h2
                · exact h4
                · exact Nat.lt_trans (ihh _ h4 j h2) h4
              · rw [List.getD_eq_getElem?_getD, List.getElem?_eq_none (by omega)] at hj
                cases hj
          exact this (hlt2 i j hm)
        · have hLj : Lof listed j = false := by
            refine Classical.byContradiction fun h => ?_
            have := hcl j (by simpa using h) i hm
            rw [hLi] at this; cases this
          rw [hLj] at hne
          have hji : j < i := by
            refine Classical.byContradiction fun h => ?_
            simp [h] at hne
          have hlt2 : ∀ (i : Nat), ∀ j ∈ pt.getD i [], j < i := by
            intro i
            induction i using Nat.strongRecOn with
            | _ i ihh =>
              intro j hj
              by_cases hin : i < ops.size
              · obtain ⟨e, he, hb, h2⟩ := (ord1 i _ (Array.getElem?_eq_getElem hin)).2 j hj
                have h4 := (ord1 i _ (Array.getElem?_eq_getElem hin)).1 e he hb
                rcases h2 with rfl | h2
                · exact h4
                · exact Nat.lt_trans (ihh _ h4 j h2) h4
              · rw [List.getD_eq_getElem?_getD, List.getElem?_eq_none (by omega)] at hj
                cases hj
          have := hlt2 j i hm
          omega
      simp only [Rec.indep, Bool.and_eq_true] at hind
      obtain ⟨⟨g1, g2⟩, g3⟩ := hind
      obtain ⟨_, _, g6⟩ := Oper.apart_spec g1
      rw [hor]
      refine ⟨g6, fun id hid hU => ?_⟩
      have := List.all_eq_true.1 g3 id hid
      simp [hU] at this
    have hinsert : stOf (Lof (listed.setIfInBounds i true)) 0 l st = stepX r (stOf (Lof listed) 0 l st) := by
      rw [← stOf_insert (ops := ops) (L := Lof listed) (i := i) (k := 0) (j := i) hr (by omega) hLi]
      · refine stOf_congr fun j _ _ => ?_
        unfold Lof
        by_cases hij : i = j
        · subst hij; simp [hsz, hlt]
        · rw [getD_set_ne false hij]
          have : (j == i) = false := by simp; omega
          simp [this]
      · intro j' r' hj' hlt' hLj
        rw [Nat.zero_add] at hlt' hLj
        refine ord2 i j' r r' hr hj' (by omega) (fun hm => ?_) (fun hm => ?_)
        · have hlt2 : ∀ (i : Nat), ∀ j ∈ pt.getD i [], j < i := by
            intro i
            induction i using Nat.strongRecOn with
            | _ i ihh =>
              intro j hj
              by_cases hin : i < ops.size
              · obtain ⟨e, he, hb, h2⟩ := (ord1 i _ (Array.getElem?_eq_getElem hin)).2 j hj
                have h4 := (ord1 i _ (Array.getElem?_eq_getElem hin)).1 e he hb
                rcases h2 with rfl | h2
                · exact h4
                · exact Nat.lt_trans (ihh _ h4 j h2) h4
              · rw [List.getD_eq_getElem?_getD, List.getElem?_eq_none (by omega)] at hj
                cases hj
          have := hlt2 i j' hm
          omega
        · have := hcl j' hLj i hm
          rw [hLi] at this; cases this
    have hL' : ∀ k, Lof (listed.setIfInBounds i true) k = true → k = i ∨ Lof listed k = true := by
      intro k hk
      by_cases hik : i = k
      · exact .inl hik.symm
      · unfold Lof at hk ⊢
        rw [getD_set_ne false hik] at hk
        exact .inr hk
    have hL'' : ∀ k, Lof listed k = true → Lof (listed.setIfInBounds i true) k = true := fun k hk => getD_set_true hk
    have next : ∀ (C' : Nat → Option Nat) (a' : Act) (w' : World) (N' : Nat → Prop), (∀ id, (base ≤ id ∧ ∀ k, (k = i ∨ Lof listed k = true) → ¬ (base + 1000 * k ≤ id ∧ id < base + 1000 * k + 1000)) → N' id) →
        Inv B N' nt C' (stepX r (stOf (Lof listed) 0 l st)) a' w' → wpAny P .any ops Q fuel (listed.setIfInBounds i true) a' w' := by
      intro C' a' w' N' hN hi'
      refine ih _ C' a' w' (by simp [hsz]) ?_ ?_ ?_
      · intro k hk j hj
        rcases hL' k hk with rfl | hk
        · exact hL'' j (hpre j hj)
        · exact hL'' j (hcl k hk j hj)
      · have hlt2 : (List.range ops.size).countP (fun k => !Lof (listed.setIfInBounds i true) k) < (List.range ops.size).countP (fun k => !Lof listed k) := by
          have gen : ∀ (xs : List Nat), i ∈ xs → xs.countP (fun k => !Lof (listed.setIfInBounds i true) k) < xs.countP (fun k => !Lof listed k) := by
            intro xs
            have le : ∀ xs : List Nat, xs.countP (fun k => !Lof (listed.setIfInBounds i true) k) ≤ xs.countP (fun k => !Lof listed k) := fun xs => by
              refine List.countP_mono_left fun k _ hk => ?_
              cases hLk : Lof listed k with
              | false => rfl
              | true => rw [hL'' k hLk] at hk; cases hk
            induction xs with
            | nil => intro h; cases h
            | cons x xs ihx =>
              intro hx
              have hLii : Lof (listed.setIfInBounds i true) i = true := by unfold Lof; simp [hsz, hlt]
              rw [List.countP_cons, List.countP_cons]
              by_cases hxi : x = i
              · subst hxi
                have := le xs
                simp [hLi, hLii]
                omega
              · have := ihx ((List.mem_cons.1 hx).resolve_left (Ne.symm hxi))
                have h5 : (if (!Lof (listed.setIfInBounds i true) x) = true then 1 else 0) = (if (!Lof listed x) = true then 1 else 0) := by
                  have : Lof (listed.setIfInBounds i true) x = Lof listed x := getD_set_ne false (Ne.symm hxi)
                  rw [this]
                omega
          exact gen _ (List.mem_range.2 hlt)
        omega
      · rw [hinsert]
        exact hi'.sub fun id hid => hN id ⟨hid.1, fun k hk => hid.2 k (by
          rcases hk with rfl | hk
          · unfold Lof; simp [hsz, hlt]
          · exact hL'' k hk)⟩
    unfold wpOp
    simp only [ho]
    have hg := agree_guard hag
    subst hor
    obtain ⟨hd, hok⟩ := hok
    cases hx : r.2.1 with
    | none =>
      rw [hx] at hok
      rw [wanted_eq hi (hg.trans hok)]
      simp only [Bool.false_eq_true, if_false]
      refine next C _ w (fun id => base ≤ id ∧ ∀ k, Lof listed k = true → ¬ (base + 1000 * k ≤ id ∧ id < base + 1000 * k + 1000)) (fun id hid => ⟨hid.1, fun k hk => hid.2 k (.inr hk)⟩) ?_
      unfold stepX
      rw [hx]
      exact hi.put (tv := .tup []) (v := undef) ⟨#[], rfl, rfl, fun j x hj => by simp at hj⟩ (fun r hr => by simp [TV.refs] at hr) hd
    | some e =>
      rw [hx] at hok
      rw [wanted_eq hi (hg.trans hok.1)]
      simp only [if_true]
      refine .inl (hok.2 _ hag (hV _) B _ nt C a w _ Q hi (fun j hj => ⟨by omega, fun k hk => ?_⟩) fun v w' C' hA => ?_)
      · have hne : k ≠ i := by rintro rfl; rw [hLi] at hk; cases hk
        rcases Nat.lt_or_gt_of_ne hne with h5 | h5
        · have : 1000 * (k + 1) ≤ 1000 * i := Nat.mul_le_mul_left _ h5
          omega
        · have : 1000 * (i + 1) ≤ 1000 * k := Nat.mul_le_mul_left _ h5
          omega
      · refine next C' _ w' (Less (fun id => base ≤ id ∧ ∀ k, Lof listed k = true → ¬ (base + 1000 * k ≤ id ∧ id < base + 1000 * k + 1000)) (base + 1000 * i)) (fun id hid => ⟨⟨hid.1, fun k hk => hid.2 k (.inr hk)⟩, fun h5 => hid.2 i (.inl rfl) ⟨by omega, by omega⟩⟩) ?_
        unfold stepX
        rw [hx]
        exact hA.inv hi hd

theorem awp_region_any {A : Nat} {Q : AEx → St → Prop} {st : St} {id : Nat} {os : List Oper} (hm : P.follows .mixedOrders = true) (l : List Rec) (pt : List (List Nat)) (hops : l.map Prod.fst = os) (hord : orderB ⟨os⟩ l pt = true)
    (h : Chain V P ⟨os⟩ nt st.next (fun st' => Q .normal (st'.nx (st.next + 1000 * os.length))) 0 l st) (hV : ∀ L, V (stOf L 0 l st)) : Awp P A nt (.region id ⟨os⟩ true) Q st := by
  intro B C a w hA hi
  refine wp_region_any hm ?_
  refine any_sound (A := A) (pt := pt) (fun j r hj => ?_) hord h hV (Q := Post B nt Q) (fun st' C' a' w' hK hi' => ⟨.normal, _, C', rfl, hK, hi'.nx _⟩) _ _ C a _ (by simp) ?_ ?_ ?_
  · subst hops
    simp [hj]
  · intro i hi
    unfold Lof at hi
    rw [Array.getD_eq_getD_getElem?] at hi
    by_cases hlt : i < os.length
    · simp [hlt] at hi
    · simp [hlt] at hi
  · exact Nat.le_trans List.countP_le_length (by simp)
  · have : stOf (Lof (Array.replicate (Array.size ⟨os⟩) false)) 0 l st = st := by
      have h1 : ∀ (l : List Rec) (k : Nat) (st : St), stOf (Lof (Array.replicate (Array.size ⟨os⟩) false)) k l st = st := by
        intro l
        induction l with
        | nil => intro _ _; rfl
        | cons r l ih =>
          intro k st
          have : Lof (Array.replicate (Array.size ⟨os⟩) false) k = false := by
            unfold Lof
            rw [Array.getD_eq_getD_getElem?]
            by_cases hlt : k < os.length <;> simp [hlt]
          simp only [stOf]
          rw [ih, this]
          rfl
      exact h1 _ _ _
    rw [this]
    exact hi.drawn.sub fun id hid => hid.1
end
end Go.Eng
