/-
Code and what it does to an abstract state: operations in a region, the shapes of code.
-/
import Derived.Test.YtnnadlpfbfajdaaGreatDoorEngN
namespace Go.Eng
open Go
set_option linter.unusedVariables false
set_option linter.unusedSimpArgs false

section
variable {P : Program} {Γ : Types} {B : Base} {N N' : Nat → Prop} {nt : Nat} {C C' : Nat → Option Nat} {st : St} {a : Act} {w w' : World}

theorem Mm.t (h : Mm B C st w) (t : Nat → TV) (nx : Nat) : Mm B C { st with t := t, next := nx } w :=
  ⟨h.own, h.box, h.excl, h.inj, h.wr, h.anc, h.fr, h.nb, h.badlt⟩

/-- The relation behind a new value in a temporary. -/
theorem Inv.put (h : Inv B N nt C st a w) {dst : Option Tmp} {tv : TV} {v : Value} (hv : TRep (CRep w (okOf B st C w) C st.own) tv v) (hr : ∀ r ∈ tv.refs, ¬ N r)
    (hd : ∀ d, dst = some d → d < nt) : Inv B N nt C (st.put dst tv) (a.put dst v) w := by
  cases dst with
  | none => exact h
  | some d =>
    have hd := hd d rfl
    refine { toMm := h.toMm.t _ _, res := ⟨h.res.own, h.res.box, fun id hi s => ?_, h.res.cell⟩, ancN := h.ancN, defers := h.defers, size := by simp [Act.put, h.size], tmp := fun s => ?_ }
    · show id ∉ (upd st.t d tv s).refs
      by_cases hs : s = d
      · subst hs; rw [upd_same]; exact fun hm => hr id hm hi
      · rw [upd_ne _ _ hs]; exact h.res.t id hi s
    · show TRep (CRep w (okOf B st C w) C st.own) (upd st.t d tv s) _
      by_cases hs : s = d
      · subst hs
        rw [upd_same]
        simpa [Act.put, h.size, hd] using hv
      · rw [upd_ne _ _ hs]
        have := h.tmp s
        simpa [Act.put, Array.getElem?_setIfInBounds_ne (Ne.symm hs)] using this

theorem After.inv (h : Inv B N nt C st a w) {e : Eff} {v : Value} {dst : Option Tmp} (hA : After B N N' C st w e v C' w') (hd : ∀ d, dst = some d → d < nt) :
    Inv B N' nt C' (st.app dst e) (a.put dst v) w' := by
  have h1 : Inv B N' nt C' (st.mem e) a w' :=
    { toMm := hA.mm, res := hA.res, ancN := fun id hi hn => h.ancN id hi (hA.sub id hn), defers := h.defers, size := h.size,
      tmp := fun s => TRep.imp (h.tmp s) fun c u hs hc => hA.keep c u (fun r hr hn => h.res.t r hn s (hs r hr)) hc }
  exact h1.put hA.val hA.vres hd

theorem Inv.drawn (h : Inv B N nt C st a w) : Inv B N nt C st a { w with drawn := w.drawn + 1 } := by
  have hm := Moves.same (B := B) (N := N) (C := C) (st := st) (w := w) (w' := { w with drawn := w.drawn + 1 }) rfl
  exact { toMm := h.toMm.same h.res h.ancN rfl rfl rfl rfl, res := h.res, ancN := h.ancN, defers := h.defers, size := h.size, tmp := fun s => TRep.imp (h.tmp s) fun c u hs hc => hm.keep c u (fun r hr hn => h.res.t r hn s (hs r hr)) hc }

/-- Whether the guard lets an operation run. -/
def guardB (ops : Array Oper) (o : Oper) (st : St) : Option Bool :=
  match o.guard with
  | none => some true
  | some (j, want) => match (ops[j]?).bind (·.dst) with
    | none => none
    | some t => match st.t t with
      | .v (.one (.d (.bool b))) => some (b == want)
      | .tup _ => some false
      | _ => none

theorem wanted_eq (h : Inv B N nt C st a w) {ops : Array Oper} {o : Oper} {b : Bool} (hg : guardB ops o st = some b) : Region.wanted o (yielded ops a.tmps) = b := by
  unfold guardB at hg
  unfold Region.wanted
  split at hg
  · rename_i h1; rw [h1]; simpa using hg
  · rename_i j want h1
    rw [h1]
    simp only
    split at hg
    · cases hg
    · rename_i t ht
      have hrep := h.tmp t
      have hx : yielded ops a.tmps j = match a.tmps.getD t undef with | .bool b => some b | _ => none := by
        unfold yielded
        rw [ht]
        by_cases hlt : t < a.tmps.size
        · simp only [Option.bind_some, hlt, getElem?_pos, Array.getD_eq_getD_getElem?, Option.getD_some]
          generalize a.tmps[t] = u
          cases u <;> rfl
        · simp [hlt, Go.undef]
      rw [hx]
      split at hg
      · rename_i b' hb
        rw [hb] at hrep
        have e2 : DRep w (okOf B st C w) (.bool b') (a.tmps.getD t undef) := hrep
        generalize a.tmps.getD t undef = u at e2
        cases e2
        cases hg
        cases b' <;> cases want <;> rfl
      · rename_i xs hb
        rw [hb] at hrep
        obtain ⟨vs, hv, _⟩ := hrep
        rw [hv]
        cases hg
        cases want <;> rfl
      · cases hg

/-- An operation has an effect. -/
def Does (P : Program) (o : Oper) (base : Nat) (st : St) (e : Eff) : Prop :=
  ∀ (B : Base) (N : Nat → Prop) (nt : Nat) (C : Nat → Option Nat) (a : Act) (w : World) (K : Act → World → Prop) (Q : Exit → Act → World → Prop), Inv B N nt C st a w → (∀ j, j < 1000 → N (base + j)) →
    (∀ v w' C', After B N (Less N base) C st w e v C' w' → K (a.put o.dst v) w') → o.wp P a w K Q

theorem does_eff (hΓ : TypesOk P Γ) {o : Oper} {base : Nat} {e : Eff} (he : aeff Γ base o.op st = some e) : Does P o base st e := by
  intro B N nt C a w K Q h hN hK
  obtain ⟨v, w', C', hr, hA⟩ := aeff_sound hΓ o.op B N nt C st a w base e h hN he
  unfold Oper.wp
  rcases hr o rfl with h1 | ⟨h1, h2⟩
  · rw [h1]; exact hK v w' C' hA
  · rw [h1]
    subst h2
    exact hK _ w' C' hA

def From (n : Nat) : Nat → Prop := fun id => n ≤ id

inductive AEx where
  | normal
  | exit (id : Nat)
  | ret
def AEx.to : AEx → Exit
  | .normal => .normal
  | .exit id => .exit id
  | .ret => .ret

def Post (B : Base) (nt : Nat) (Q : AEx → St → Prop) (e : Exit) (a : Act) (w : World) : Prop :=
  ∃ ae st C, e = ae.to ∧ Q ae st ∧ Inv B (From st.next) nt C st a w
/-- Code leads from a state to those of Q. -/
def Awp (P : Program) (A nt : Nat) (c : Code) (Q : AEx → St → Prop) (st : St) : Prop :=
  ∀ (B : Base) (C : Nat → Option Nat) (a : Act) (w : World), (∀ id ∈ B.anc, id < A) → Inv B (From st.next) nt C st a w → c.wp P (Post B nt Q) a w

variable {A : Nat} {Q Q' : AEx → St → Prop}
theorem awp_mono {c : Code} (h : Awp P A nt c Q st) (hq : ∀ ae st, Q ae st → Q' ae st) : Awp P A nt c Q' st :=
  fun B C a w hA hi => wp_mono (h B C a w hA hi) fun e a w ⟨ae, st, C, h1, h2, h3⟩ => ⟨ae, st, C, h1, hq ae st h2, h3⟩
theorem awp_skip (h : Q .normal st) : Awp P A nt .skip Q st := fun B C a w hA hi => wp_skip ⟨.normal, st, C, rfl, h, hi⟩
theorem awp_exit {id : Nat} (h : Q (.exit id) st) : Awp P A nt (.exit id) Q st := fun B C a w hA hi => wp_exit ⟨.exit id, st, C, rfl, h, hi⟩
theorem awp_ret (h : Q .ret st) : Awp P A nt .ret Q st := fun B C a w hA hi => wp_ret ⟨.ret, st, C, rfl, h, hi⟩
theorem awp_label {l : Nat} (h : Q .normal st) : Awp P A nt (.label l) Q st := fun B C a w hA hi => wp_label ⟨.normal, st, C, rfl, h, hi⟩

def AEx.then (next : St → Prop) (Q : AEx → St → Prop) : AEx → St → Prop
  | .normal, st => next st
  | ae, st => Q ae st
theorem awp_seq {x y : Code} (h : Awp P A nt x (AEx.then (Awp P A nt y Q) Q) st) : Awp P A nt (.seq x y) Q st := by
  intro B C a w hA hi
  refine wp_seq (wp_mono (h B C a w hA hi) ?_)
  rintro e a' w' ⟨ae, st', C', rfl, h1, h2⟩
  cases ae with
  | normal => exact h1 B C' a' w' hA h2
  | exit id => exact ⟨.exit id, st', C', rfl, h1, h2⟩
  | ret => exact ⟨.ret, st', C', rfl, h1, h2⟩

theorem awp_cond {c : Operand} {x y : Code} {b : Bool} (hc : st.ev c = some (.v (.one (.d (.bool b))))) (h : Awp P A nt (if b then x else y) Q st) : Awp P A nt (.cond c x y) Q st := by
  intro B C a w hA hi
  have h1 := (ev_sound hi hc).1
  have h2 : DRep w (okOf B st C w) (.bool b) (a.eval c) := h1
  generalize hv : a.eval c = v at h2
  cases h2
  exact wp_cond hv (h B C a w hA hi)
theorem awp_true {c : Operand} {x y : Code} {b : Bool} (hc : st.ev c = some (.v (.one (.d (.bool b))))) (hb : b = true) (h : Awp P A nt x Q st) : Awp P A nt (.cond c x y) Q st :=
  awp_cond hc (by subst hb; exact h)
theorem awp_false {c : Operand} {x y : Code} {b : Bool} (hc : st.ev c = some (.v (.one (.d (.bool b))))) (hb : b = false) (h : Awp P A nt y Q st) : Awp P A nt (.cond c x y) Q st :=
  awp_cond hc (by subst hb; exact h)

def AEx.inBlock (id : Nat) (Q : AEx → St → Prop) : AEx → St → Prop
  | .exit id', st => if id' = id then Q .normal st else Q (.exit id') st
  | ae, st => Q ae st
theorem awp_block {id : Nat} {c : Code} (h : Awp P A nt c (AEx.inBlock id Q) st) : Awp P A nt (.block id c) Q st := by
  intro B C a w hA hi
  refine wp_block (wp_mono (h B C a w hA hi) ?_)
  rintro e a' w' ⟨ae, st', C', rfl, h1, h2⟩
  cases ae with
  | normal => exact ⟨.normal, st', C', rfl, h1, h2⟩
  | exit id' =>
    show (if id' = id then Post B nt Q .normal a' w' else Post B nt Q (.exit id') a' w')
    have h1' : if id' = id then Q .normal st' else Q (.exit id') st' := h1
    split
    · rename_i hid; rw [if_pos hid] at h1'; exact ⟨.normal, st', C', rfl, h1', h2⟩
    · rename_i hid; rw [if_neg hid] at h1'; exact ⟨.exit id', st', C', rfl, h1', h2⟩
  | ret => exact ⟨.ret, st', C', rfl, h1, h2⟩

/-- A function of rounds: it goes on with another state, or answers. -/
inductive Rounds {σ ρ : Type} (f : σ → Option (σ ⊕ ρ)) : σ → ρ → Prop where
  | last {s : σ} {r : ρ} (h : f s = some (.inr r)) : Rounds f s r
  | more {s s' : σ} {r : ρ} (h : f s = some (.inl s')) (hr : Rounds f s' r) : Rounds f s r

theorem awp_loop {c : Code} {σ ρ : Type} {f : σ → Option (σ ⊕ ρ)} (S : σ → St → Prop) (R : ρ → AEx → St → Prop) {s : σ} {r : ρ} (hr : Rounds f s r) (h0 : S s st)
    (round : ∀ s x st, S s st → f s = some x → Awp P A nt c (fun ae st' => match ae with | .normal => ∃ s', x = .inl s' ∧ S s' st' | ae => ∃ r, x = .inr r ∧ R r ae st') st) :
    Awp P A nt (.loop c) (R r) st := by
  intro B C a w hA hi b k cs
  have key : ∀ s r, Rounds f s r → ∀ st C a w, S s st → Inv B (From st.next) nt C st a w →
      ∃ e a' w', Post B nt (R r) e a' w' ∧ Arrives P (lone (b.at a (.code c :: .inLoop c :: k)) cs w) b k cs e a' w' := by
    intro s r hr
    induction hr with
    | last h1 =>
      intro st C a w hS hi
      obtain ⟨e, a1, w1, ⟨ae, st1, C1, rfl, hq, hi1⟩, harr⟩ := round _ _ st hS h1 B C a w hA hi b (.inLoop c :: k) cs
      cases ae with
      | normal => obtain ⟨s', h2, _⟩ := hq; cases h2
      | exit id =>
        obtain ⟨r', h2, h3⟩ := hq
        cases h2
        exact ⟨_, a1, w1, ⟨.exit id, st1, C1, rfl, h3, hi1⟩, .pass (x := .inLoop c) rfl (fun _ _ => .inl (by simp [AEx.to])) harr⟩
      | ret =>
        obtain ⟨r', h2, h3⟩ := hq
        cases h2
        exact ⟨_, a1, w1, ⟨.ret, st1, C1, rfl, h3, hi1⟩, .pass (x := .inLoop c) rfl (fun _ _ => .inl (by simp [AEx.to])) harr⟩
    | more h1 _ ih =>
      intro st C a w hS hi
      obtain ⟨e, a1, w1, ⟨ae, st1, C1, rfl, hq, hi1⟩, harr⟩ := round _ _ st hS h1 B C a w hA hi b (.inLoop c :: k) cs
      cases ae with
      | normal =>
        obtain ⟨s', h2, h3⟩ := hq
        cases h2
        obtain ⟨e2, a2, w2, hq2, harr2⟩ := ih st1 C1 a1 w1 h3 hi1
        exact ⟨e2, a2, w2, hq2, .of_steps (Steps.trans harr (.one step_inLoop)) harr2⟩
      | exit id => obtain ⟨r', h2, _⟩ := hq; cases h2
      | ret => obtain ⟨r', h2, _⟩ := hq; cases h2
  obtain ⟨e, a', w', hq, harr⟩ := key s r hr st C a w h0 hi
  exact ⟨e, a', w', hq, .of_steps (.one step_loop) harr⟩

/-! ### Regions in their order -/
/-- The operations from k on; ids are free from base + 1000 k. -/
def Aops (P : Program) (nt : Nat) (ops : Array Oper) (base : Nat) (k : Nat) (l : List Oper) (K : St → Prop) (st : St) : Prop :=
  k ≤ ops.size → ops.toList.drop k = l → ∀ (B : Base) (C : Nat → Option Nat) (a : Act) (w : World) (Q : Exit → Act → World → Prop),
    (∀ (st' : St) (C' : Nat → Option Nat) (a' : Act) (w' : World), K st' → Inv B (From (base + 1000 * ops.size)) nt C' st' a' w' → Q .normal a' w') →
    Inv B (From (base + 1000 * k)) nt C st a w → wpOps P ops Q (List.range' k l.length) a w

variable {ops : Array Oper} {base k : Nat} {o : Oper} {l : List Oper} {K : St → Prop}
theorem Inv.sub (h : Inv B N nt C st a w) (hs : ∀ id, N' id → N id) : Inv B N' nt C st a w :=
  { toMm := h.toMm, res := h.res.less hs, ancN := fun id hi hn => h.ancN id hi (hs id hn), defers := h.defers, size := h.size, tmp := h.tmp }

theorem aops_nil (h : K st) : Aops P nt ops base k [] K st := by
  intro hk hl B C a w Q hQ hi
  refine hQ st C a w h (hi.sub fun id hid => ?_)
  have : ops.size ≤ k := by
    have h2 := List.drop_eq_nil_iff.1 hl
    simpa using h2
  have h3 : base + 1000 * ops.size ≤ id := hid
  show base + 1000 * k ≤ id
  omega

theorem drop_cons {α : Type} {xs l : List α} {k : Nat} {x : α} (h : xs.drop k = x :: l) : xs[k]? = some x ∧ xs.drop (k + 1) = l := by
  refine ⟨?_, by rw [← List.drop_drop, h]; rfl⟩
  have := congrArg (·[0]?) h
  simpa using this

theorem aops_do {e : Eff} (hg : guardB ops o st = some true) (hd : ∀ d, o.dst = some d → d < nt) (he : Does P o (base + 1000 * k) st e)
    (h : Aops P nt ops base (k + 1) l K (st.app o.dst e)) : Aops P nt ops base k (o :: l) K st := by
  intro hk hl B C a w Q hQ hi
  obtain ⟨h1, h2⟩ := drop_cons hl
  have h1' : ops[k]? = some o := by simpa using h1
  have hk' : k + 1 ≤ ops.size := (Array.getElem?_eq_some_iff.1 h1').1
  show wpOps P ops Q (k :: List.range' (k + 1) l.length) a w
  simp only [wpOps, h1', wanted_eq hi hg, if_true]
  refine .inl (he B _ nt C a w _ Q hi (fun j _ => ?_) fun v w' C' hA => h hk' h2 B C' _ w' Q hQ ((hA.inv hi hd).sub fun id hid => ?_))
  · show base + 1000 * k ≤ base + 1000 * k + j
    omega
  · have h3 : base + 1000 * (k + 1) ≤ id := hid
    exact ⟨show base + 1000 * k ≤ id by omega, by omega⟩

theorem aops_skip (hg : guardB ops o st = some false) (hd : ∀ d, o.dst = some d → d < nt) (h : Aops P nt ops base (k + 1) l K (st.put o.dst (.tup []))) :
    Aops P nt ops base k (o :: l) K st := by
  intro hk hl B C a w Q hQ hi
  obtain ⟨h1, h2⟩ := drop_cons hl
  have h1' : ops[k]? = some o := by simpa using h1
  have hk' : k + 1 ≤ ops.size := (Array.getElem?_eq_some_iff.1 h1').1
  show wpOps P ops Q (k :: List.range' (k + 1) l.length) a w
  simp only [wpOps, h1', wanted_eq hi hg]
  refine h hk' h2 B C _ w Q hQ ((hi.put (tv := .tup []) (v := undef) ⟨#[], rfl, rfl, fun j x hj => by simp at hj⟩ (fun r hr => by simp [TV.refs] at hr) hd).sub fun id hid => ?_)
  have h3 : base + 1000 * (k + 1) ≤ id := hid
  show base + 1000 * k ≤ id
  omega

def St.nx (st : St) (n : Nat) : St := { st with next := n }
theorem Inv.nx (h : Inv B N nt C st a w) (n : Nat) : Inv B N nt C (st.nx n) a w :=
  { toMm := h.toMm.t _ _, res := ⟨h.res.own, h.res.box, h.res.t, h.res.cell⟩, ancN := h.ancN, defers := h.defers, size := h.size, tmp := h.tmp }

theorem awp_region {id : Nat} {l : List Oper} (h : Aops P nt ⟨l⟩ st.next 0 l (fun st' => Q .normal (st'.nx (st.next + 1000 * l.length))) st) : Awp P A nt (.region id ⟨l⟩ false) Q st := by
  intro B C a w hA hi
  refine wp_region ?_
  have h1 := h (Nat.zero_le _) rfl B C a w (Post B nt Q) (fun st' C' a' w' hK hi' => ⟨.normal, _, C', rfl, hK, hi'.nx _⟩) (hi.sub fun id hid => by simpa using hid)
  simpa [List.range_eq_range'] using h1
end
end Go.Eng
