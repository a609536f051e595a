/-
How the relation between an abstract state and the model's memory lives on when memory grows or is written.
-/
import Derived.Test.YtnnadlpfbfajdaaGreatDoorEngA
namespace Go.Eng
open Go
set_option linter.unusedVariables false

def Keep (B : Base) (N : Nat → Prop) (C : Nat → Option Nat) (st : St) (w : World) (C' : Nat → Option Nat) (st' : St) (w' : World) : Prop :=
  ∀ c u, (∀ r ∈ c.refs, ¬ N r) → CRep w (okOf B st C w) C st.own c u → CRep w' (okOf B st' C' w') C' st'.own c u

structure Moves (B : Base) (N : Nat → Prop) (C : Nat → Option Nat) (st : St) (w : World) (C' : Nat → Option Nat) (st' : St) (w' : World) : Prop where
  hw : ∀ b, okOf B st C w b → w'.heap[b]? = w.heap[b]?
  hok : ∀ b, okOf B st C w b → okOf B st' C' w' b
  hC : ∀ id, ¬ N id → C' id = C id
  ho : ∀ id, ¬ N id → ∀ e', st'.own id = some e' → ∃ e, st.own id = some e ∧ e.et = e'.et ∧ e.sz = e'.sz ∧ e.xs.length = e'.xs.length ∧
      ∀ b arr, C id = some b → w.heap[b]? = some (.cells arr e.et (0, 0)) → ∃ arr', w'.heap[b]? = some (.cells arr' e.et (0, 0)) ∧ arr'.size = arr.size

theorem Moves.keep {B : Base} {N : Nat → Prop} {C C' : Nat → Option Nat} {st st' : St} {w w' : World} (h : Moves B N C st w C' st' w') : Keep B N C st w C' st' w' :=
  fun _ _ hr hc => hc.mono h.hw h.hok (fun id hi => h.hC id (hr id hi)) (fun id hi => h.ho id (hr id hi))

theorem Moves.refl (B : Base) (N : Nat → Prop) (C : Nat → Option Nat) (st : St) (w : World) : Moves B N C st w C st w :=
  ⟨fun _ _ => rfl, fun _ h => h, fun _ _ => rfl, fun _ _ e' he => ⟨e', he, rfl, rfl, rfl, fun _ arr _ h => ⟨arr, h, rfl⟩⟩⟩

theorem OwnOk.mono {w w' : World} {ok ok' : Nat → Prop} {C C' : Nat → Option Nat} {id : Nat} {e : OwnB} (h : OwnOk w ok C id e) (hC : C' id = C id)
    (hb : ∀ b, C id = some b → w'.heap[b]? = w.heap[b]?) (hw : ∀ b, ok b → w'.heap[b]? = w.heap[b]?) (hok : ∀ b, ok b → ok' b) : OwnOk w' ok' C' id e := by
  obtain ⟨h0, h⟩ := h
  refine ⟨h0, h.imp (fun ⟨h1, h2⟩ => ⟨hC.trans h1, h2⟩) ?_⟩
  rintro ⟨b, arr, h1, h2, h3, h4, h5⟩
  refine ⟨b, arr, hC.trans h1, (hb b h1).trans h2, h3, h4, fun i j cs x hi hj => ?_⟩
  obtain ⟨v, hv, hd⟩ := h5 i j cs x hi hj
  exact ⟨v, hv, hd.mono hw hok⟩

theorem BoxOk.imp {w w' : World} {R R' : Cell → Value → Prop} {C C' : Nat → Option Nat} {id : Nat} {cs : List Cell} (h : BoxOk w R C id cs) (hC : C' id = C id)
    (hb : ∀ b, C id = some b → w'.heap[b]? = w.heap[b]?) (hR : ∀ c ∈ cs, ∀ u, R c u → R' c u) : BoxOk w' R' C' id cs := by
  obtain ⟨b, o, arr, h1, h2, h2a, h2b, h3, h4⟩ := h
  refine ⟨b, o, arr, hC.trans h1, (hb b h1).trans h2, h2a, h2b, h3, fun j c hj => ?_⟩
  obtain ⟨v, hv, hr⟩ := h4 j c hj
  exact ⟨v, hv, hR c (List.mem_of_getElem? hj) v hr⟩

/-- The relation behind a change: what is new or written is shown anew, the rest is carried. -/
theorem Mm.step {B : Base} {N : Nat → Prop} {C C' : Nat → Option Nat} {st st' : St} {w w' : World} (h : Mm B C st w) (hr : Res N st) (hm : Moves B N C st w C' st' w')
    (fr : Fr B.w0 B.Wr w') (hanc : ∀ id ∈ B.anc, ¬ N id)
    (own : ∀ id e', st'.own id = some e' → (st.own id = some e' ∧ ∀ b, C id = some b → w'.heap[b]? = w.heap[b]?) ∨ OwnOk w' (okOf B st' C' w') C' id e')
    (box : ∀ id cs', st'.box id = some cs' → (st.box id = some cs' ∧ ∀ b, C id = some b → w'.heap[b]? = w.heap[b]?) ∨
      BoxOk w' (CRep w' (okOf B st' C' w') C' st'.own) C' id cs')
    (excl : ∀ id, st'.own id = none ∨ st'.box id = none)
    (inj : ∀ id id' b, Live st' id → Live st' id' → C' id = some b → C' id' = some b → id = id')
    (wr : ∀ id b, Live st' id → C' id = some b → B.Wr b ∨ B.w0.heap.size ≤ b) (nb : ∀ id b, Live st' id → C' id = some b → ¬ B.bad b) : Mm B C' st' w' where
  own id e' he := by
    rcases own id e' he with ⟨h1, h2⟩ | h1
    · have hn : ¬ N id := fun hn => by rw [hr.own id hn] at h1; cases h1
      exact (h.own id e' h1).mono (hm.hC id hn) h2 hm.hw hm.hok
    · exact h1
  box id cs he := by
    rcases box id cs he with ⟨h1, h2⟩ | h1
    · have hn : ¬ N id := fun hn => by rw [hr.box id hn] at h1; cases h1
      exact (h.box id cs h1).imp (hm.hC id hn) h2 fun c hc u hu => hm.keep c u (fun r hr' hN => hr.cell r hN id cs c h1 hc hr') hu
    · exact h1
  excl := excl
  inj := inj
  wr := wr
  anc id hi := (hm.hC id (hanc id hi)).trans (h.anc id hi)
  fr := fr
  nb := nb
  badlt := h.badlt

/-! ### Frames -/
theorem Fr.refl (w : World) (Wr : Nat → Prop) : Fr w Wr w := ⟨rfl, rfl, rfl, Nat.le_refl _, fun _ _ _ => rfl, fun _ arr _ _ h => ⟨arr, _, h, rfl⟩⟩
theorem Fr.same {w0 w w' : World} {Wr : Nat → Prop} (h : Fr w0 Wr w) (ho : w'.os = w.os) (ht : w'.tape = w.tape) (hp : w'.output = w.output) (hh : w'.heap = w.heap) :
    Fr w0 Wr w' := ⟨ho.trans h.os, ht.trans h.tape, hp.trans h.output, by rw [hh]; exact h.size, fun b hb hn => by rw [hh]; exact h.block b hb hn, fun b arr et k h0 => by rw [hh]; exact h.sz b arr et k h0⟩

/-- w' is w with block b holding other cells of the same type. -/
structure Put1 (w : World) (b : Nat) (o : Obj) (w' : World) : Prop where
  os : w'.os = w.os
  tape : w'.tape = w.tape
  output : w'.output = w.output
  size : w'.heap.size = w.heap.size
  at_ : w'.heap[b]? = some o
  far : ∀ b', b' ≠ b → w'.heap[b']? = w.heap[b']?

theorem Fr.put1 {w0 w w' : World} {Wr : Nat → Prop} {b : Nat} {o : Obj} (h : Fr w0 Wr w) (hp : Put1 w b o w') (hb : Wr b ∨ w0.heap.size ≤ b)
    (ho : ∀ (arr : Array Value) (et : TypeId) (k : Nat × Nat), w.heap[b]? = some (.cells arr et k) → ∃ arr' k', o = .cells arr' et k' ∧ arr'.size = arr.size) : Fr w0 Wr w' :=
  ⟨hp.os.trans h.os, hp.tape.trans h.tape, hp.output.trans h.output, by rw [hp.size]; exact h.size, fun b' hb' hn => by
    rw [hp.far b' (by rintro rfl; rcases hb with hb | hb; exact hn hb; omega)]; exact h.block b' hb' hn, fun b' arr et k h0 => by
    obtain ⟨a1, k1, g1, g2⟩ := h.sz b' arr et k h0
    by_cases hbb : b' = b
    · subst hbb
      obtain ⟨a2, k2, rfl, g3⟩ := ho a1 et k1 g1
      exact ⟨a2, k2, hp.at_, g3.trans g2⟩
    · exact ⟨a1, k1, by rw [hp.far b' hbb]; exact g1, g2⟩⟩

/-- w' is w with one block more (draws may have been made). -/
structure New1 (w : World) (o : Obj) (w' : World) : Prop where
  os : w'.os = w.os
  tape : w'.tape = w.tape
  output : w'.output = w.output
  heap : w'.heap = w.heap.push o

theorem New1.old {w w' : World} {o : Obj} (h : New1 w o w') {b : Nat} (hb : b < w.heap.size) : w'.heap[b]? = w.heap[b]? := by
  rw [h.heap, Array.getElem?_push]; simp [Nat.ne_of_lt hb]
theorem New1.new {w w' : World} {o : Obj} (h : New1 w o w') : w'.heap[w.heap.size]? = some o := by
  rw [h.heap]; simp
theorem Fr.new1 {w0 w w' : World} {Wr : Nat → Prop} {o : Obj} (h : Fr w0 Wr w) (hp : New1 w o w') : Fr w0 Wr w' :=
  ⟨hp.os.trans h.os, hp.tape.trans h.tape, hp.output.trans h.output, by have := h.size; simp [hp.heap]; omega, fun b hb hn => by
    rw [hp.old (Nat.lt_of_lt_of_le hb h.size)]; exact h.block b hb hn, fun b arr et k h0 => by
    obtain ⟨a1, k1, g1, g2⟩ := h.sz b arr et k h0
    exact ⟨a1, k1, by rw [hp.old (Array.getElem?_eq_some_iff.1 g1).1]; exact g1, g2⟩⟩

/-! ### A live id's block is there -/
theorem Mm.block {B : Base} {C : Nat → Option Nat} {st : St} {w : World} (h : Mm B C st w) {id b : Nat} (hl : Live st id) (hb : C id = some b) :
    ∃ o, w.heap[b]? = some o ∧ ∃ arr, OV o arr := by
  rcases hl with hl | hl
  · cases he : st.own id with
    | none => exact absurd he hl
    | some e =>
      obtain ⟨_, h1⟩ := h.own id e he
      rcases h1 with ⟨h1, _⟩ | ⟨b', arr, h1, h2, _⟩
      · rw [hb] at h1; cases h1
      · rw [hb] at h1; cases h1; exact ⟨_, h2, arr, .inl ⟨_, rfl⟩⟩
  · cases he : st.box id with
    | none => exact absurd he hl
    | some cs =>
      obtain ⟨b', o, arr, h1, h2, h3, _⟩ := h.box id cs he
      rw [hb] at h1; cases h1; exact ⟨o, h2, arr, h3⟩
theorem Mm.block_lt {B : Base} {C : Nat → Option Nat} {st : St} {w : World} (h : Mm B C st w) {id b : Nat} (hl : Live st id) (hb : C id = some b) : b < w.heap.size := by
  obtain ⟨o, h1, _⟩ := h.block hl hb
  exact (Array.getElem?_eq_some_iff.1 h1).1

section
variable {B : Base} {N : Nat → Prop} {C : Nat → Option Nat} {st : St} {w w' : World}

/-- The heap is the same (draws). -/
theorem Moves.same (hh : w'.heap = w.heap) : Moves B N C st w C st w' :=
  ⟨fun b _ => by rw [hh], fun b h => ⟨by rw [hh]; exact h.1, h.2.1, h.2.2⟩, fun _ _ => rfl, fun _ _ e' he => ⟨e', he, rfl, rfl, rfl, fun _ arr _ h => ⟨arr, by rw [hh]; exact h, rfl⟩⟩⟩
theorem Mm.same (h : Mm B C st w) (hr : Res N st) (hanc : ∀ id ∈ B.anc, ¬ N id) (ho : w'.os = w.os) (ht : w'.tape = w.tape) (hp : w'.output = w.output) (hh : w'.heap = w.heap) : Mm B C st w' :=
  h.step hr (Moves.same hh) (h.fr.same ho ht hp hh) hanc (fun _ _ he => .inl ⟨he, fun _ _ => by rw [hh]⟩) (fun _ _ he => .inl ⟨he, fun _ _ => by rw [hh]⟩) h.excl h.inj h.wr h.nb

/-- A new block for an id that was not in use. -/
theorem live_upd_own {id j : Nat} {e : Option OwnB} (h : Live { st with own := upd st.own id e } j) : j = id ∨ Live st j := by
  by_cases hj : j = id
  · exact .inl hj
  · refine .inr (h.imp (fun h => ?_) fun h => h)
    simpa [upd, hj] using h
theorem live_upd_box {id j : Nat} {e : Option (List Cell)} (h : Live { st with box := upd st.box id e } j) : j = id ∨ Live st j := by
  by_cases hj : j = id
  · exact .inl hj
  · refine .inr (h.imp (fun h => h) fun h => ?_)
    simpa [upd, hj] using h

theorem Moves.new_own {o : Obj} {id : Nat} {e : OwnB} (hN : N id) (hr : Res N st) (hn : New1 w o w') :
    Moves B N C st w (upd C id (some w.heap.size)) { st with own := upd st.own id (some e) } w' where
  hw b hb := hn.old hb.1
  hok b hb := ⟨by have := hb.1; simp [hn.heap]; omega, hb.2.1, fun j hj => by
    by_cases hji : j = id
    · subst hji; rw [upd_same]; have := hb.1; simp; omega
    · rw [upd_ne _ _ hji]; exact hb.2.2 j ((live_upd_own hj).resolve_left hji)⟩
  hC j hj := upd_ne _ _ (by rintro rfl; exact hj hN)
  ho j hj e' he' := by
    have hji : j ≠ id := by rintro rfl; exact hj hN
    simp only [upd_ne _ _ hji] at he'
    exact ⟨e', he', rfl, rfl, rfl, fun b arr _ h => ⟨arr, (hn.old ((Array.getElem?_eq_some_iff.1 h).1)).trans h, rfl⟩⟩

theorem Mm.new_own {id : Nat} {e : OwnB} {arr : Array Value} (h : Mm B C st w) (hr : Res N st) (hanc : ∀ id ∈ B.anc, ¬ N id) (hN : N id) (hn : New1 w (.cells arr e.et) w') (hsz : 0 < e.sz)
    (hle : e.xs.length * e.sz ≤ arr.size) (hcs : ∀ cs ∈ e.xs, cs.length = e.sz)
    (hd : ∀ (i j : Nat) (cs : List D) (x : D), e.xs[i]? = some cs → cs[j]? = some x → ∃ v, arr[i * e.sz + j]? = some v ∧ DRep w (okOf B st C w) x v) :
    Mm B (upd C id (some w.heap.size)) { st with own := upd st.own id (some e) } w' := by
  have hm := Moves.new_own (B := B) (C := C) (e := e) hN hr hn
  refine h.step hr hm (h.fr.new1 hn) hanc ?_ ?_ ?_ ?_ ?_ ?_
  · intro j e' he'
    by_cases hji : j = id
    · subst hji
      simp only [upd_same, Option.some.injEq] at he'
      subst he'
      refine .inr ⟨hsz, .inr ⟨w.heap.size, arr, upd_same _ _ _, hn.new, hle, hcs, fun i j cs x hi hj => ?_⟩⟩
      obtain ⟨v, hv, hd⟩ := hd i j cs x hi hj
      exact ⟨v, hv, hd.mono hm.hw hm.hok⟩
    · simp only [upd_ne _ _ hji] at he'
      exact .inl ⟨he', fun b hb => hn.old (h.block_lt (.inl (by rw [he']; simp)) hb)⟩
  · intro j cs he
    exact .inl ⟨he, fun b hb => hn.old (h.block_lt (.inr (by show st.box j ≠ none; simp [show st.box j = some cs from he])) hb)⟩
  · intro j
    by_cases hji : j = id
    · subst hji; exact .inr (hr.box j hN)
    · simp only [upd_ne _ _ hji]; exact h.excl j
  · intro j j' b hj hj' hb hb'
    rcases live_upd_own hj with rfl | hl <;> rcases live_upd_own hj' with rfl | hl'
    · rfl
    · by_cases e0 : j' = j
      · exact e0.symm
      · rw [upd_same] at hb; rw [upd_ne _ _ e0] at hb'
        cases hb; exact absurd (h.block_lt hl' hb') (Nat.lt_irrefl _)
    · by_cases e0 : j = j'
      · exact e0
      · rw [upd_same] at hb'; rw [upd_ne _ _ e0] at hb
        cases hb'; exact absurd (h.block_lt hl hb) (Nat.lt_irrefl _)
    · have n1 : j ≠ id := by rintro rfl; rcases hl with hl | hl; exact hl (hr.own _ hN); exact hl (hr.box _ hN)
      have n2 : j' ≠ id := by rintro rfl; rcases hl' with hl | hl; exact hl (hr.own _ hN); exact hl (hr.box _ hN)
      rw [upd_ne _ _ n1] at hb; rw [upd_ne _ _ n2] at hb'
      exact h.inj j j' b hl hl' hb hb'
  · intro j b hj hb
    by_cases hji : j = id
    · subst hji; rw [upd_same] at hb; cases hb; exact .inr h.fr.size
    · rw [upd_ne _ _ hji] at hb; exact h.wr j b ((live_upd_own hj).resolve_left hji) hb
  · intro j b hj hb
    by_cases hji : j = id
    · subst hji; rw [upd_same] at hb; cases hb; exact fun hbad => absurd (h.badlt.lt _ hbad) (by have := h.fr.size; omega)
    · rw [upd_ne _ _ hji] at hb; exact h.nb j b ((live_upd_own hj).resolve_left hji) hb

theorem Moves.new_box {o : Obj} {id : Nat} {cs : List Cell} (hN : N id) (hr : Res N st) (hn : New1 w o w') :
    Moves B N C st w (upd C id (some w.heap.size)) { st with box := upd st.box id (some cs) } w' where
  hw b hb := hn.old hb.1
  hok b hb := ⟨by have := hb.1; simp [hn.heap]; omega, hb.2.1, fun j hj => by
    by_cases hji : j = id
    · subst hji; rw [upd_same]; have := hb.1; simp; omega
    · rw [upd_ne _ _ hji]; exact hb.2.2 j ((live_upd_box hj).resolve_left hji)⟩
  hC j hj := upd_ne _ _ (by rintro rfl; exact hj hN)
  ho j hj e' he' := ⟨e', he', rfl, rfl, rfl, fun b arr _ h => ⟨arr, (hn.old ((Array.getElem?_eq_some_iff.1 h).1)).trans h, rfl⟩⟩

theorem Mm.new_obj {id : Nat} {cs : List Cell} {arr : Array Value} {o : Obj} (h : Mm B C st w) (hr : Res N st) (hanc : ∀ id ∈ B.anc, ¬ N id) (hN : N id) (hn : New1 w o w')
    (hov : OV o arr) (hkd : Kd o cs) (hle : arr.size = cs.length) (href : ∀ c ∈ cs, ∀ r ∈ c.refs, ¬ N r)
    (hd : ∀ (j : Nat) (c : Cell), cs[j]? = some c → ∃ v, arr[j]? = some v ∧ CRep w (okOf B st C w) C st.own c v) :
    Mm B (upd C id (some w.heap.size)) { st with box := upd st.box id (some cs) } w' := by
  have hm := Moves.new_box (B := B) (C := C) (cs := cs) hN hr hn
  refine h.step hr hm (h.fr.new1 hn) hanc ?_ ?_ ?_ ?_ ?_ ?_
  · intro j e' he'
    exact .inl ⟨he', fun b hb => hn.old (h.block_lt (.inl (by show st.own j ≠ none; simp [show st.own j = some e' from he'])) hb)⟩
  · intro j cs' he
    by_cases hji : j = id
    · subst hji
      simp only [upd_same, Option.some.injEq] at he
      subst he
      refine .inr ⟨w.heap.size, o, arr, upd_same _ _ _, hn.new, hov, hkd, hle, fun j c hj => ?_⟩
      obtain ⟨v, hv, hd⟩ := hd j c hj
      exact ⟨v, hv, hm.keep c v (href c (List.mem_of_getElem? hj)) hd⟩
    · simp only [upd_ne _ _ hji] at he
      exact .inl ⟨he, fun b hb => hn.old (h.block_lt (.inr (by rw [he]; simp)) hb)⟩
  · intro j
    by_cases hji : j = id
    · subst hji; exact .inl (hr.own j hN)
    · simp only [upd_ne _ _ hji]; exact h.excl j
  · intro j j' b hj hj' hb hb'
    rcases live_upd_box hj with rfl | hl <;> rcases live_upd_box hj' with rfl | hl'
    · rfl
    · by_cases e0 : j' = j
      · exact e0.symm
      · rw [upd_same] at hb; rw [upd_ne _ _ e0] at hb'
        cases hb; exact absurd (h.block_lt hl' hb') (Nat.lt_irrefl _)
    · by_cases e0 : j = j'
      · exact e0
      · rw [upd_same] at hb'; rw [upd_ne _ _ e0] at hb
        cases hb'; exact absurd (h.block_lt hl hb) (Nat.lt_irrefl _)
    · have n1 : j ≠ id := by rintro rfl; rcases hl with hl | hl; exact hl (hr.own _ hN); exact hl (hr.box _ hN)
      have n2 : j' ≠ id := by rintro rfl; rcases hl' with hl | hl; exact hl (hr.own _ hN); exact hl (hr.box _ hN)
      rw [upd_ne _ _ n1] at hb; rw [upd_ne _ _ n2] at hb'
      exact h.inj j j' b hl hl' hb hb'
  · intro j b hj hb
    by_cases hji : j = id
    · subst hji; rw [upd_same] at hb; cases hb; exact .inr h.fr.size
    · rw [upd_ne _ _ hji] at hb; exact h.wr j b ((live_upd_box hj).resolve_left hji) hb
  · intro j b hj hb
    by_cases hji : j = id
    · subst hji; rw [upd_same] at hb; cases hb; exact fun hbad => absurd (h.badlt.lt _ hbad) (by have := h.fr.size; omega)
    · rw [upd_ne _ _ hji] at hb; exact h.nb j b ((live_upd_box hj).resolve_left hji) hb

theorem Mm.new_box {id : Nat} {cs : List Cell} {arr : Array Value} {et : TypeId} (h : Mm B C st w) (hr : Res N st) (hanc : ∀ id ∈ B.anc, ¬ N id) (hN : N id) (hn : New1 w (.cells arr et) w')
    (hle : arr.size = cs.length) (hct : ∀ c ∈ cs, c.atT et) (href : ∀ c ∈ cs, ∀ r ∈ c.refs, ¬ N r)
    (hd : ∀ (j : Nat) (c : Cell), cs[j]? = some c → ∃ v, arr[j]? = some v ∧ CRep w (okOf B st C w) C st.own c v) :
    Mm B (upd C id (some w.heap.size)) { st with box := upd st.box id (some cs) } w' :=
  h.new_obj hr hanc hN hn (.inl ⟨et, rfl⟩) (.inl ⟨arr, et, rfl, hct⟩) hle href hd

/-! ### Writing -/
theorem okOf_put {b b0 : Nat} {o : Obj} {id : Nat} (hp : Put1 w b0 o w') (hl : Live st id) (hb : C id = some b0) (h : okOf B st C w b) : w'.heap[b]? = w.heap[b]? :=
  hp.far b (by rintro rfl; exact h.2.2 id hl hb)

theorem Mm.put_obj {id b : Nat} {cs cs' : List Cell} {arr' : Array Value} {o o' : Obj} (h : Mm B C st w) (hr : Res N st) (hanc : ∀ id ∈ B.anc, ¬ N id) (hs : st.box id = some cs)
    (hb : C id = some b) (hh : w.heap[b]? = some o) (hp : Put1 w b o' w') (hov : OV o' arr') (hkd : Kd o' cs') (hsz : arr'.size = cs'.length)
    (harr : ∀ (arr : Array Value) (et : TypeId) (k : Nat × Nat), o = .cells arr et k → ∃ arr', o' = .cells arr' et k ∧ arr'.size = arr.size)
    (href : ∀ c ∈ cs', ∀ r ∈ c.refs, ¬ N r)
    (hd : ∀ (j : Nat) (c : Cell), cs'[j]? = some c → ∃ v, arr'[j]? = some v ∧ CRep w (okOf B st C w) C st.own c v) :
    Moves B N C st w C { st with box := upd st.box id (some cs') } w' ∧ Mm B C { st with box := upd st.box id (some cs') } w' := by
  have hl : Live st id := .inr (by rw [hs]; simp)
  have live' : ∀ j, Live { st with box := upd st.box id (some cs') } j → Live st j := fun j hj => (live_upd_box hj).elim (fun e => e ▸ hl) fun x => x
  have hm : Moves B N C st w C { st with box := upd st.box id (some cs') } w' :=
    ⟨fun b' h' => okOf_put hp hl hb h', fun b' h' => ⟨by rw [hp.size]; exact h'.1, h'.2.1, fun j hj => h'.2.2 j (live' j hj)⟩, fun _ _ => rfl, fun j hj e' he' =>
      ⟨e', he', rfl, rfl, rfl, fun b' arr1 hb' h1 => ⟨arr1, by
        rw [hp.far b' (by
          rintro rfl
          have := h.inj j id b' (.inl (by show st.own j ≠ none; simp [show st.own j = some e' from he'])) hl hb' hb
          subst this
          rcases h.excl j with h2 | h2
          · simp [show st.own j = some e' from he'] at h2
          · rw [hs] at h2; cases h2)]
        exact h1, rfl⟩⟩⟩
  refine ⟨hm, h.step hr hm (h.fr.put1 hp (h.wr id b hl hb) fun a1 et1 k1 h1 => by rw [hh] at h1; cases h1; exact (harr a1 et1 k1 rfl).imp fun _ h => ⟨_, h⟩) hanc ?_ ?_ ?_ ?_ ?_ ?_⟩
  · intro j e' he'
    refine .inl ⟨he', fun b' hb' => hp.far b' ?_⟩
    rintro rfl
    have := h.inj j id b' (.inl (by show st.own j ≠ none; simp [show st.own j = some e' from he'])) hl hb' hb
    subst this
    rcases h.excl j with h2 | h2
    · simp [show st.own j = some e' from he'] at h2
    · rw [hs] at h2; cases h2
  · intro j cs1 he
    by_cases hji : j = id
    · subst hji
      simp only [upd_same, Option.some.injEq] at he
      subst he
      refine .inr ⟨b, o', arr', hb, hp.at_, hov, hkd, hsz, fun j c hj => ?_⟩
      obtain ⟨v, hv, hd⟩ := hd j c hj
      exact ⟨v, hv, hm.keep c v (href c (List.mem_of_getElem? hj)) hd⟩
    · simp only [upd_ne _ _ hji] at he
      refine .inl ⟨he, fun b' hb' => hp.far b' ?_⟩
      rintro rfl
      exact hji (h.inj j id b' (.inr (by rw [he]; simp)) hl hb' hb)
  · intro j
    by_cases hji : j = id
    · subst hji
      rcases h.excl j with h2 | h2
      · exact .inl h2
      · rw [hs] at h2; cases h2
    · simp only [upd_ne _ _ hji]; exact h.excl j
  · exact fun j j' b' hj hj' => h.inj j j' b' (live' j hj) (live' j' hj')
  · exact fun j b' hj => h.wr j b' (live' j hj)
  · exact fun j b' hj => h.nb j b' (live' j hj)

theorem Mm.put_box {id b : Nat} {cs cs' : List Cell} {arr arr' : Array Value} {et : TypeId} (h : Mm B C st w) (hr : Res N st) (hanc : ∀ id ∈ B.anc, ¬ N id) (hs : st.box id = some cs)
    (hb : C id = some b) (hh : w.heap[b]? = some (.cells arr et (0, 0))) (hp : Put1 w b (.cells arr' et (0, 0)) w') (hsz : arr'.size = cs'.length) (harr : arr'.size = arr.size)
    (hct : ∀ c ∈ cs', c.atT et) (href : ∀ c ∈ cs', ∀ r ∈ c.refs, ¬ N r)
    (hd : ∀ (j : Nat) (c : Cell), cs'[j]? = some c → ∃ v, arr'[j]? = some v ∧ CRep w (okOf B st C w) C st.own c v) :
    Moves B N C st w C { st with box := upd st.box id (some cs') } w' ∧ Mm B C { st with box := upd st.box id (some cs') } w' :=
  h.put_obj hr hanc hs hb hh hp (.inl ⟨et, rfl⟩) (.inl ⟨arr', et, rfl, hct⟩) hsz (fun a1 et1 k1 h1 => by cases h1; exact ⟨arr', rfl, harr⟩) href hd

theorem Mm.put_own {id b : Nat} {e : OwnB} {xs' : List (List D)} {arr arr' : Array Value} (h : Mm B C st w) (hr : Res N st) (hanc : ∀ id ∈ B.anc, ¬ N id) (hs : st.own id = some e)
    (hb : C id = some b) (hh : w.heap[b]? = some (.cells arr e.et (0, 0))) (hp : Put1 w b (.cells arr' e.et (0, 0)) w') (hsz : arr'.size = arr.size) (hxl : e.xs.length = xs'.length)
    (hle : xs'.length * e.sz ≤ arr'.size) (hcs : ∀ cs ∈ xs', cs.length = e.sz)
    (hd : ∀ (i j : Nat) (cs : List D) (x : D), xs'[i]? = some cs → cs[j]? = some x → ∃ v, arr'[i * e.sz + j]? = some v ∧ DRep w (okOf B st C w) x v) :
    Moves B N C st w C { st with own := upd st.own id (some { e with xs := xs' }) } w' ∧ Mm B C { st with own := upd st.own id (some { e with xs := xs' }) } w' := by
  have hl : Live st id := .inl (by rw [hs]; simp)
  have live' : ∀ j, Live { st with own := upd st.own id (some { e with xs := xs' }) } j → Live st j := fun j hj => (live_upd_own hj).elim (fun e => e ▸ hl) fun x => x
  have hm : Moves B N C st w C { st with own := upd st.own id (some { e with xs := xs' }) } w' :=
    ⟨fun b' h' => okOf_put hp hl hb h', fun b' h' => ⟨by rw [hp.size]; exact h'.1, h'.2.1, fun j hj => h'.2.2 j (live' j hj)⟩, fun _ _ => rfl, fun j hj e' he' => by
      by_cases hji : j = id
      · subst hji
        simp only [upd_same, Option.some.injEq] at he'
        subst he'
        refine ⟨e, hs, rfl, rfl, hxl, fun b' arr1 hb' h1 => ?_⟩
        rw [hb] at hb'; cases hb'
        rw [hh] at h1; cases h1
        exact ⟨arr', hp.at_, hsz⟩
      · simp only [upd_ne _ _ hji] at he'
        exact ⟨e', he', rfl, rfl, rfl, fun b' arr1 hb' h1 => ⟨arr1, by
          rw [hp.far b' (by rintro rfl; exact hji (h.inj j id b' (.inl (by rw [he']; simp)) hl hb' hb))]; exact h1, rfl⟩⟩⟩
  refine ⟨hm, h.step hr hm (h.fr.put1 hp (h.wr id b hl hb) fun a1 et1 k1 h1 => by rw [hh] at h1; cases h1; exact ⟨arr', _, rfl, hsz⟩) hanc ?_ ?_ ?_ ?_ ?_ ?_⟩
  · intro j e' he'
    by_cases hji : j = id
    · subst hji
      simp only [upd_same, Option.some.injEq] at he'
      subst he'
      refine .inr ⟨(h.own j e hs).1, .inr ⟨b, arr', hb, hp.at_, hle, hcs, fun i j cs x hi hj => ?_⟩⟩
      obtain ⟨v, hv, hd⟩ := hd i j cs x hi hj
      exact ⟨v, hv, hd.mono hm.hw hm.hok⟩
    · simp only [upd_ne _ _ hji] at he'
      exact .inl ⟨he', fun b' hb' => hp.far b' (by rintro rfl; exact hji (h.inj j id b' (.inl (by rw [he']; simp)) hl hb' hb))⟩
  · intro j cs he
    refine .inl ⟨he, fun b' hb' => hp.far b' ?_⟩
    rintro rfl
    have := h.inj j id b' (.inr (by show st.box j ≠ none; simp [show st.box j = some cs from he])) hl hb' hb
    subst this
    rcases h.excl j with h2 | h2
    · rw [hs] at h2; cases h2
    · simp [show st.box j = some cs from he] at h2
  · intro j
    by_cases hji : j = id
    · subst hji
      rcases h.excl j with h2 | h2
      · rw [hs] at h2; cases h2
      · exact .inr h2
    · simp only [upd_ne _ _ hji]; exact h.excl j
  · exact fun j j' b' hj hj' => h.inj j j' b' (live' j hj) (live' j' hj')
  · exact fun j b' hj => h.wr j b' (live' j hj)
  · exact fun j b' hj => h.nb j b' (live' j hj)

/-- An id is given up: its block is written no more. -/
theorem Mm.drop {id : Nat} (h : Mm B C st w) (hr : Res N st) (hanc : ∀ id ∈ B.anc, ¬ N id) :
    Moves B N C st w C { st with own := upd st.own id none } w ∧ Mm B C { st with own := upd st.own id none } w := by
  have live' : ∀ j, Live { st with own := upd st.own id none } j → Live st j := fun j hj => by
    rcases hj with hj | hj
    · by_cases hji : j = id
      · subst hji; simp [upd] at hj
      · exact .inl (by simpa [upd, hji] using hj)
    · exact .inr hj
  have hm : Moves B N C st w C { st with own := upd st.own id none } w :=
    ⟨fun _ _ => rfl, fun b' h' => ⟨h'.1, h'.2.1, fun j hj => h'.2.2 j (live' j hj)⟩, fun _ _ => rfl, fun j hj e' he' => by
      by_cases hji : j = id
      · subst hji; simp [upd] at he'
      · simp only [upd_ne _ _ hji] at he'
        exact ⟨e', he', rfl, rfl, rfl, fun b' arr1 hb' h1 => ⟨arr1, h1, rfl⟩⟩⟩
  refine ⟨hm, h.step hr hm h.fr hanc ?_ ?_ ?_ ?_ ?_ ?_⟩
  · intro j e' he'
    by_cases hji : j = id
    · subst hji; simp [upd] at he'
    · simp only [upd_ne _ _ hji] at he'
      exact .inl ⟨he', fun _ _ => rfl⟩
  · exact fun j cs he => .inl ⟨he, fun _ _ => rfl⟩
  · intro j
    by_cases hji : j = id
    · subst hji; exact .inl (upd_same _ _ _)
    · simp only [upd_ne _ _ hji]; exact h.excl j
  · exact fun j j' b' hj hj' => h.inj j j' b' (live' j hj) (live' j' hj')
  · exact fun j b' hj => h.wr j b' (live' j hj)
  · exact fun j b' hj => h.nb j b' (live' j hj)

/-- A block is written and taken over by a new id: the old one is given up. -/
theorem Mm.move_own {id id' b : Nat} {e e2 : OwnB} {arr arr' : Array Value} (h : Mm B C st w) (hr : Res N st) (hanc : ∀ id ∈ B.anc, ¬ N id) (hs : st.own id = some e) (hN : N id')
    (hb : C id = some b) (hh : w.heap[b]? = some (.cells arr e.et (0, 0))) (hp : Put1 w b (.cells arr' e2.et (0, 0)) w') (hsz : 0 < e2.sz) (het : e2.et = e.et) (harr : arr'.size = arr.size) (hle : e2.xs.length * e2.sz ≤ arr'.size) (hcs : ∀ cs ∈ e2.xs, cs.length = e2.sz)
    (hd : ∀ (i j : Nat) (cs : List D) (x : D), e2.xs[i]? = some cs → cs[j]? = some x → ∃ v, arr'[i * e2.sz + j]? = some v ∧ DRep w (okOf B st C w) x v) :
    Moves B N C st w (upd C id' (some b)) { st with own := upd (upd st.own id none) id' (some e2) } w' ∧
      Mm B (upd C id' (some b)) { st with own := upd (upd st.own id none) id' (some e2) } w' := by
  have hne : id ≠ id' := by rintro rfl; rw [hr.own _ hN] at hs; cases hs
  have hl : Live st id := .inl (by rw [hs]; simp)
  have n' : ∀ j, Live st j → j ≠ id' := fun j hj => by rintro rfl; rcases hj with hj | hj; exact hj (hr.own _ hN); exact hj (hr.box _ hN)
  have live' : ∀ j, Live { st with own := upd (upd st.own id none) id' (some e2) } j → j = id' ∨ (Live st j ∧ j ≠ id) := fun j hj => by
    by_cases hj' : j = id'
    · exact .inl hj'
    · refine .inr ?_
      rcases hj with hj | hj
      · simp only [upd_ne _ _ hj'] at hj
        by_cases hji : j = id
        · subst hji; simp [upd] at hj
        · simp only [upd_ne _ _ hji] at hj; exact ⟨.inl hj, hji⟩
      · refine ⟨.inr hj, ?_⟩
        rintro rfl
        rcases h.excl j with h2 | h2
        · rw [hs] at h2; cases h2
        · exact hj h2
  have far : ∀ j, Live st j → j ≠ id → ∀ b', C j = some b' → w'.heap[b']? = w.heap[b']? := fun j hj hji b' hb' => hp.far b' (by rintro rfl; exact hji (h.inj j id b' hj hl hb' hb))
  have hm : Moves B N C st w (upd C id' (some b)) { st with own := upd (upd st.own id none) id' (some e2) } w' :=
    ⟨fun b' h' => okOf_put hp hl hb h', fun b' h' => ⟨by rw [hp.size]; exact h'.1, h'.2.1, fun j hj => by
      rcases live' j hj with rfl | ⟨h1, h2⟩
      · rw [upd_same]; rw [← hb]; exact h'.2.2 id hl
      · rw [upd_ne _ _ (n' j h1)]; exact h'.2.2 j h1⟩, fun j hj => upd_ne _ _ (by rintro rfl; exact hj hN), fun j hj e' he' => by
      have hj' : j ≠ id' := by rintro rfl; exact hj hN
      simp only [upd_ne _ _ hj'] at he'
      by_cases hji : j = id
      · subst hji; simp [upd] at he'
      · simp only [upd_ne _ _ hji] at he'
        exact ⟨e', he', rfl, rfl, rfl, fun b' arr1 hb' h1 => ⟨arr1, by rw [far j (.inl (by rw [he']; simp)) hji b' hb']; exact h1, rfl⟩⟩⟩
  refine ⟨hm, h.step hr hm (h.fr.put1 hp (h.wr id b hl hb) fun a1 et1 k1 h1 => by rw [hh] at h1; cases h1; exact ⟨arr', (0, 0), by rw [het], harr⟩) hanc ?_ ?_ ?_ ?_ ?_ ?_⟩
  · intro j e' he'
    by_cases hj' : j = id'
    · subst hj'
      simp only [upd_same, Option.some.injEq] at he'
      subst he'
      refine .inr ⟨hsz, .inr ⟨b, arr', upd_same _ _ _, hp.at_, hle, hcs, fun i j cs x hi hj => ?_⟩⟩
      obtain ⟨v, hv, hd⟩ := hd i j cs x hi hj
      exact ⟨v, hv, hd.mono hm.hw hm.hok⟩
    · simp only [upd_ne _ _ hj'] at he'
      by_cases hji : j = id
      · subst hji; simp [upd] at he'
      · simp only [upd_ne _ _ hji] at he'
        exact .inl ⟨he', far j (.inl (by rw [he']; simp)) hji⟩
  · intro j cs he
    have hjl : Live st j := .inr (by show st.box j ≠ none; simp [show st.box j = some cs from he])
    have hji : j ≠ id := by
      rintro rfl
      rcases h.excl j with h2 | h2
      · rw [hs] at h2; cases h2
      · simp [show st.box j = some cs from he] at h2
    exact .inl ⟨he, far j hjl hji⟩
  · intro j
    by_cases hj' : j = id'
    · subst hj'; exact .inr (hr.box _ hN)
    · simp only [upd_ne _ _ hj']
      by_cases hji : j = id
      · subst hji; exact .inl (upd_same _ _ _)
      · simp only [upd_ne _ _ hji]; exact h.excl j
  · intro j j' b' hj hj' hb1 hb1'
    rcases live' j hj with rfl | ⟨h1, h2⟩ <;> rcases live' j' hj' with e1 | ⟨h1', h2'⟩
    · exact e1.symm
    · rw [upd_same] at hb1; rw [upd_ne _ _ (n' j' h1')] at hb1'
      cases hb1; exact absurd (h.inj j' id b h1' hl hb1' hb) h2'
    · subst e1
      rw [upd_same] at hb1'; rw [upd_ne _ _ (n' j h1)] at hb1
      cases hb1'; exact absurd (h.inj j id b h1 hl hb1 hb) h2
    · rw [upd_ne _ _ (n' j h1)] at hb1; rw [upd_ne _ _ (n' j' h1')] at hb1'
      exact h.inj j j' b' h1 h1' hb1 hb1'
  · intro j b' hj hb1
    rcases live' j hj with rfl | ⟨h1, h2⟩
    · rw [upd_same] at hb1; cases hb1; exact h.wr id b hl hb
    · rw [upd_ne _ _ (n' j h1)] at hb1; exact h.wr j b' h1 hb1
  · intro j b' hj hb1
    rcases live' j hj with rfl | ⟨h1, h2⟩
    · rw [upd_same] at hb1; cases hb1; exact h.nb id b hl hb
    · rw [upd_ne _ _ (n' j h1)] at hb1; exact h.nb j b' h1 hb1

/-- A nil slice of one's own under a new id: no block. -/
theorem Mm.new_nil {id : Nat} {e : OwnB} (h : Mm B C st w) (hr : Res N st) (hanc : ∀ id ∈ B.anc, ¬ N id) (hN : N id) (hsz : 0 < e.sz) (he0 : e.xs = []) :
    Moves B N C st w (upd C id none) { st with own := upd st.own id (some e) } w ∧ Mm B (upd C id none) { st with own := upd st.own id (some e) } w := by
  have hm : Moves B N C st w (upd C id none) { st with own := upd st.own id (some e) } w :=
    ⟨fun _ _ => rfl, fun b' h' => ⟨h'.1, h'.2.1, fun j hj => by
      rcases live_upd_own hj with rfl | hj
      · rw [upd_same]; simp
      · by_cases hji : j = id
        · subst hji; rw [upd_same]; simp
        · rw [upd_ne _ _ hji]; exact h'.2.2 j hj⟩, fun j hj => upd_ne _ _ (by rintro rfl; exact hj hN), fun j hj e' he' => by
      have hji : j ≠ id := by rintro rfl; exact hj hN
      simp only [upd_ne _ _ hji] at he'
      exact ⟨e', he', rfl, rfl, rfl, fun b' arr1 _ h1 => ⟨arr1, h1, rfl⟩⟩⟩
  refine ⟨hm, h.step hr hm h.fr hanc ?_ ?_ ?_ ?_ ?_ ?_⟩
  · intro j e' he'
    by_cases hji : j = id
    · subst hji
      simp only [upd_same, Option.some.injEq] at he'
      subst he'
      exact .inr ⟨hsz, .inl ⟨upd_same _ _ _, he0⟩⟩
    · simp only [upd_ne _ _ hji] at he'
      exact .inl ⟨he', fun _ _ => rfl⟩
  · exact fun j cs he => .inl ⟨he, fun _ _ => rfl⟩
  · intro j
    by_cases hji : j = id
    · subst hji; exact .inr (hr.box j hN)
    · simp only [upd_ne _ _ hji]; exact h.excl j
  · intro j j' b hj hj' hb hb'
    have n1 : j ≠ id := by rintro rfl; rw [upd_same] at hb; cases hb
    have n2 : j' ≠ id := by rintro rfl; rw [upd_same] at hb'; cases hb'
    rw [upd_ne _ _ n1] at hb; rw [upd_ne _ _ n2] at hb'
    exact h.inj j j' b ((live_upd_own hj).resolve_left n1) ((live_upd_own hj').resolve_left n2) hb hb'
  · intro j b hj hb
    have n1 : j ≠ id := by rintro rfl; rw [upd_same] at hb; cases hb
    rw [upd_ne _ _ n1] at hb
    exact h.wr j b ((live_upd_own hj).resolve_left n1) hb
  · intro j b hj hb
    have n1 : j ≠ id := by rintro rfl; rw [upd_same] at hb; cases hb
    rw [upd_ne _ _ n1] at hb
    exact h.nb j b ((live_upd_own hj).resolve_left n1) hb
end
end Go.Eng
