/-
Ranges over maps: the map stays as it is while it is gone through; what comes next is anyone's choice.
-/
import Derived.Test.YtnnadlpfbfajdaaGreatDoorEng6
namespace Go.Eng
open Go Go.MapKept
set_option linter.unusedVariables false
set_option linter.unusedSimpArgs false
set_option linter.unusedSectionVars false

section
variable {B : Base} {N : Nat → Prop} {nt : Nat} {C : Nat → Option Nat} {st : St} {a : Act} {w : World} {P : Program} {Γ : Types}

/-! ### The content of a box, said otherwise -/
theorem live_same {id : Nat} {cs cs' : List Cell} (hb : st.box id = some cs) (j : Nat) : Live { st with box := upd st.box id (some cs') } j ↔ Live st j := by
  unfold Live
  by_cases hj : j = id
  · subst hj; simp [upd_same, hb]
  · simp [upd_ne _ _ hj]
theorem okOf_same {id : Nat} {cs cs' : List Cell} (hb : st.box id = some cs) : okOf B { st with box := upd st.box id (some cs') } C w = okOf B st C w := by
  funext b
  unfold okOf
  simp only [live_same hb]
theorem inv_box (h : Inv B N nt C st a w) {id : Nat} {cs cs' : List Cell} (hb : st.box id = some cs) (hk : BoxOk w (CRep w (okOf B st C w) C st.own) C id cs') (hr : ∀ c ∈ cs', ∀ r ∈ c.refs, ¬ N r) :
    Inv B N nt C { st with box := upd st.box id (some cs') } a w := by
  have he := okOf_same (B := B) (C := C) (w := w) (cs' := cs') hb
  refine { own := fun j e hj => ?_, box := fun j ds hj => ?_, excl := fun j => ?_, inj := fun j j' b h1 h2 => ?_, wr := fun j b h1 => ?_, anc := h.anc, fr := h.fr, nb := fun j b h1 => ?_, badlt := h.badlt, res := ?_, ancN := h.ancN, defers := h.defers, size := h.size, tmp := fun s => ?_ }
  · rw [he]; exact h.own j e hj
  · rw [he]
    by_cases hji : j = id
    · subst hji
      simp only [upd_same, Option.some.injEq] at hj
      subst hj
      exact hk
    · simp only [upd_ne _ _ hji] at hj
      exact h.box j ds hj
  · by_cases hji : j = id
    · subst hji
      rcases h.excl j with h1 | h1
      · exact .inl h1
      · rw [hb] at h1; cases h1
    · simp only [upd_ne _ _ hji]; exact h.excl j
  · exact h.inj j j' b ((live_same hb j).1 h1) ((live_same hb j').1 h2)
  · exact h.wr j b ((live_same hb j).1 h1)
  · exact h.nb j b ((live_same hb j).1 h1)
  · refine ⟨h.res.own, fun j hj => ?_, h.res.t, fun j hj i ds c hi hc hrf => ?_⟩
    · have : j ≠ id := by rintro rfl; rw [h.res.box _ hj] at hb; cases hb
      simp only [upd_ne _ _ this]; exact h.res.box j hj
    · by_cases hji : i = id
      · subst hji
        simp only [upd_same, Option.some.injEq] at hi
        subst hi
        exact hr c hc j hrf hj
      · simp only [upd_ne _ _ hji] at hi
        exact h.res.cell j hj i ds c hi hc hrf
  · rw [he]; exact h.tmp s
theorem box_like {R : Cell → Value → Prop} {id : Nat} {c c' : Cell} (h : BoxOk w R C id [c]) (hc : c.content = true) (hc' : c'.content = true) (hR : ∀ v, R c v → R c' v) : BoxOk w R C id [c'] := by
  obtain ⟨b, o, v, h1, h2, h3, h4, h5⟩ := box_map hc h
  refine ⟨b, o, #[v], h1, h2, h3, .inr ⟨h4, c', rfl, ?_⟩, rfl, fun j d hj => ?_⟩
  · cases c' <;> first | rfl | cases hc'
  · match j, hj with
    | 0, hj => simp at hj; subst hj; exact ⟨v, rfl, hR v h5⟩
/-- a map whose entries are told in another order -/
theorem inv_close (h : Inv B N nt C st a w) {id : Nat} {ka : KK} {va : Bool} {me : List (Nat × List D × List D)} {cl : Nat} {es : List (List D × List D)} (hb : st.box id = some [.mapg ka va me cl]) (hp : es.Perm (me.map (·.2))) :
    Inv B N nt C { st with box := upd st.box id (some [.mapc ka va es]) } a w :=
  inv_box h hb (box_like (h.box id _ hb) rfl rfl fun v ⟨es', h1, h2⟩ => ⟨me, cl, es', h1, h2, hp⟩) fun c hc r hr => by rw [List.mem_singleton] at hc; subst hc; cases hr
theorem inv_perm (h : Inv B N nt C st a w) {id : Nat} {ka : KK} {va : Bool} {es es' : List (List D × List D)} (hb : st.box id = some [.mapc ka va es]) (hp : es'.Perm es) :
    Inv B N nt C { st with box := upd st.box id (some [.mapc ka va es']) } a w :=
  inv_box h hb (box_like (h.box id _ hb) rfl rfl fun v ⟨me, cl, es0, h1, h2, h3⟩ => ⟨me, cl, es0, h1, h2, hp.trans h3⟩) fun c hc r hr => by rw [List.mem_singleton] at hc; subst hc; cases hr
theorem inv_open (h : Inv B N nt C st a w) {id : Nat} {ka : KK} {va : Bool} {es : List (List D × List D)} (hb : st.box id = some [.mapc ka va es]) :
    ∃ me cl, es.Perm (me.map (·.2)) ∧ Inv B N nt C { st with box := upd st.box id (some [.mapg ka va me cl]) } a w := by
  obtain ⟨b, me, cl, es0, h1, h2, h3, h4⟩ := box_mapc (h.box id _ hb)
  refine ⟨me, cl, h4, inv_box h hb ⟨b, _, #[mapVal es0 cl], h1, h2, .inr (.inl ⟨es0, cl, rfl, rfl⟩), .inr ⟨fun _ _ _ h => (by cases h), _, rfl, rfl⟩, rfl, fun j d hj => ?_⟩ fun c hc r hr => by rw [List.mem_singleton] at hc; subst hc; cases hr⟩
  match j, hj with
  | 0, hj => simp at hj; subst hj; exact ⟨_, rfl, es0, rfl, h3⟩
theorem box_mapg {ok : Nat → Prop} {own : Nat → Option OwnB} {id : Nat} {kk : KK} {va : Bool} {me : List (Nat × List D × List D)} {cl : Nat} (h : BoxOk w (CRep w ok C own) C id [.mapg kk va me cl]) :
    ∃ b es, C id = some b ∧ w.heap[b]? = some (.map es cl) ∧ MapG w ok kk va me cl es := by
  obtain ⟨b, o, v, h1, h2, h3, h4, es, rfl, hm⟩ := box_map rfl h
  rcases h3 with ⟨et, rfl⟩ | ⟨es', clock', rfl, h3⟩ | ⟨m, s, a, p, rfl, h3⟩ | ⟨s, p, rfl, h3⟩
  · exact absurd rfl (h4 _ _ _)
  · have : mapVal es cl = mapVal es' clock' := by
      have := congrArg (fun a : Array Value => a[0]?) h3
      simpa using this
    obtain ⟨rfl, rfl⟩ := mapVal_inj this
    exact ⟨b, es, h1, h2, hm⟩
  · have : mapVal es cl = iterVal m s a p := by
      have := congrArg (fun a : Array Value => a[0]?) h3
      simpa using this
    exact (mapVal_ne this).elim
  · have : mapVal es cl = sitVal s p := by
      have := congrArg (fun a : Array Value => a[0]?) h3
      simpa using this
    exact (sit_map this.symm).elim
theorem box_iter {ok : Nat → Prop} {own : Nat → Option OwnB} {id idM : Nat} {me : List (Nat × List D × List D)} {cl : Nat} {rest : List (List D × List D)} {cur : Option (Nat × List D × List D)} (h : BoxOk w (CRep w ok C own) C id [.iterc idM me cl rest cur]) :
    ∃ b bM seen, C id = some b ∧ C idM = some bM ∧ w.heap[b]? = some (.mapIter (some bM) cl seen cl) ∧ rest.Perm ((me.filter fun e => !seen.contains e.1).map (·.2)) ∧ ∀ e, cur = some e → e ∈ me ∧ seen.back? = some e.1 := by
  obtain ⟨b, o, v, h1, h2, h3, h4, bM, seen, hM, rfl, hp, hc⟩ := box_map rfl h
  rcases h3 with ⟨et, rfl⟩ | ⟨es', clock', rfl, h3⟩ | ⟨m, s, a, p, rfl, h3⟩ | ⟨s, p, rfl, h3⟩
  · exact absurd rfl (h4 _ _ _)
  · have : iterVal bM cl seen cl = mapVal es' clock' := by
      have := congrArg (fun a : Array Value => a[0]?) h3
      simpa using this
    exact (mapVal_ne this.symm).elim
  · have : iterVal bM cl seen cl = iterVal m s a p := by
      have := congrArg (fun a : Array Value => a[0]?) h3
      simpa using this
    obtain ⟨rfl, rfl, rfl, rfl⟩ := iterVal_inj this
    exact ⟨b, bM, seen, h1, hM, h2, hp, hc⟩
  · have : iterVal bM cl seen cl = sitVal s p := by
      have := congrArg (fun a : Array Value => a[0]?) h3
      simpa using this
    exact (sit_iter this.symm).elim

/-! ### Steps without an operation -/
variable {A : Nat} {Q : AEx → St → Prop} {ops : Array Oper} {base k : Nat} {o : Oper} {l : List Oper} {K : St → Prop}
theorem aops_open (id : Nat) {ka : KK} {va : Bool} {es : List (List D × List D)} (h : ∀ me cl, es.Perm (me.map (·.2)) → Aops P nt ops base k l K { st with box := upd st.box id (some [.mapg ka va me cl]) })
    (hb : st.box id = some [.mapc ka va es]) : Aops P nt ops base k l K st := by
  intro hk hl B C a w Q hQ hi
  obtain ⟨me, cl, hp, hi'⟩ := inv_open hi hb
  exact h me cl hp hk hl B C a w Q hQ hi'
theorem aops_perm {id : Nat} {ka : KK} {va : Bool} {es es' : List (List D × List D)} (hp : es'.Perm es) (h : Aops P nt ops base k l K { st with box := upd st.box id (some [.mapc ka va es']) })
    (hb : st.box id = some [.mapc ka va es]) : Aops P nt ops base k l K st := by
  intro hk hl B C a w Q hQ hi
  exact h hk hl B C a w Q hQ (inv_perm hi hb hp)
theorem awp_close {c : Code} (id : Nat) {ka : KK} {va : Bool} {me : List (Nat × List D × List D)} {cl : Nat} {es : List (List D × List D)} (hp : es.Perm (me.map (·.2)))
    (h : Awp P A nt c Q { st with box := upd st.box id (some [.mapc ka va es]) }) (hb : st.box id = some [.mapg ka va me cl] := by kernel_rfl) : Awp P A nt c Q st := by
  intro B C a w hA hi
  exact h B C a w hA (inv_close hi hb hp)

/-! ### Range -/
theorem does_rangeM (hΓ : TypesOk P Γ) {t : TypeId} {x : Operand} {id : Nat} {ka : KK} {va : Bool} {me : List (Nat × List D × List D)} {cl : Nat} {rest : List (List D × List D)} {kt et : TypeId}
    (ho : o.op = .range t x) (ht : (Γ.lookup t).map (·.kind) = some (.map kt et)) (hx : st.ev x = some (.v (.one (.mapp id)))) (hM : st.box id = some [.mapg ka va me cl]) (hp : rest.Perm (me.map (·.2))) :
    Does P o base st ⟨.c (.box base 0), [], [(base, some [.iterc id me cl rest none])], [base]⟩ := by
  intro B N nt C a w K Q h hN hK
  obtain ⟨b, hb, hv⟩ := (ev_sound h hx).1
  obtain ⟨b', es, hb', hh, hm⟩ := box_mapg (h.box id _ hM)
  rw [hb] at hb'; cases hb'
  obtain ⟨ti, hti, hk⟩ := Option.map_eq_some_iff.1 ht
  obtain ⟨_, _, d, _, _, _, _, hu, _, hkk, _⟩ := TIok.facts (hΓ.ok t _ hti)
  rw [hk] at hkk
  rw [kind_map hkk] at hu
  have hnid : ¬ N id := fun hn => by rw [h.res.box id hn] at hM; cases hM
  have hrun : (execOp a.eval o).run P w = .ok (.value (.pointer (some ⟨w.heap.size, 0, none⟩))) { w with heap := w.heap.push (.mapIter (some b) cl #[] cl) } := by
    simp [execOp, ho, hv, Instr.range, run_underlying hu, MapKept.run_getObj_map hh, newObj, Result.andThen]
    rfl
  unfold Oper.wp
  rw [hrun]
  refine hK _ _ (upd C base (some w.heap.size)) ?_
  refine ⟨h.toMm.new_obj h.res h.ancN (hN 0 (by omega)) (new1_alloc w _) (.inr (.inr (.inl ⟨b, cl, #[], cl, rfl, rfl⟩))) (.inr ⟨fun _ _ _ h => (by cases h), _, rfl, rfl⟩) rfl (fun c hc r hr => ?_) (fun j c hj => ?_), ?_, ⟨w.heap.size, upd_same _ _ _, rfl⟩, ?_, ?_, fun _ hi => hi.1⟩
  · rw [List.mem_singleton] at hc; subst hc; simp [Cell.refs] at hr; subst hr; exact hnid
  · match j, hj with
    | 0, hj =>
      simp at hj
      subst hj
      exact ⟨_, rfl, b, #[], hb, rfl, (by rw [show (me.filter fun e => !(#[] : Array Nat).contains e.1) = me from List.filter_eq_self.2 (fun _ _ => by simp)]; exact hp), fun e he => by cases he⟩
  · exact (Moves.new_box (cs := [.iterc id me cl rest none]) (hN 0 (by omega)) h.res (new1_alloc w _)).keep
  · exact res_new_box h.res (fun c hc r hr => by rw [List.mem_singleton] at hc; subst hc; simp [Cell.refs] at hr; subst hr; exact hnid)
  · intro r hr hn; simp [TV.refs, T1.refs, Cell.refs] at hr; subst hr; exact less_ne hn rfl

/-! ### What comes next -/
theorem run_choose {n : Nat} (hn : 0 < n) (w : World) : ∃ j w', (choose (.mapNext n)).run P w = .ok j w' ∧ j < n ∧ (w' = w ∨ w' = { w with drawn := w.drawn + 1 }) := by
  by_cases h : n ≤ 1
  · exact ⟨0, w, by simp [choose, Sem.run, Question.forced, h], hn, .inl rfl⟩
  · exact ⟨w.tape w.drawn (.mapNext n) % n, { w with drawn := w.drawn + 1 }, by simp [choose, Sem.run, Question.forced, Question.cut, h], Nat.mod_lt _ hn, .inr rfl⟩
theorem vrep_valT {ok : Nat → Prop} {own : Nat → Option OwnB} {agg : Bool} {ds : List D} {v : Value} (h : VRep w ok agg ds v) : T1Rep (CRep w ok C own) (valT agg ds) v := by
  rcases h with ⟨rfl, vs, rfl, h1, h2⟩ | ⟨rfl, x, rfl, h1⟩
  · refine ⟨vs, rfl, by simpa using h1, fun j c hj => ?_⟩
    rw [List.getElem?_map] at hj
    cases hx : ds[j]? with
    | none => rw [hx] at hj; cases hj
    | some x =>
      rw [hx] at hj
      injection hj with hj
      subst hj
      exact h2 j x hx
  · exact h1
theorem valT_refs (agg : Bool) (ds : List D) : (valT agg ds).refs = [] := by
  cases agg with
  | true => simp [valT, T1.refs, Cell.refs]
  | false => simp [valT, T1.refs, Cell.refs]
theorem perm_out {α β : Type} : ∀ {l : List (α × β)}, (l.map (·.1)).Nodup → ∀ [DecidableEq α] {x : α × β}, x ∈ l → l.Perm (x :: l.filter fun e => !decide (e.1 = x.1))
  | [], _, _, x, hx => by cases hx
  | y :: l, hn, _, x, hx => by
    rw [List.map_cons, List.nodup_cons] at hn
    rcases List.mem_cons.1 hx with rfl | hx
    · have : l.filter (fun e => !decide (e.1 = x.1)) = l := List.filter_eq_self.2 fun e he => by
        have : e.1 ≠ x.1 := fun h => hn.1 (h ▸ List.mem_map.2 ⟨e, he, rfl⟩)
        simp [this]
      rw [List.filter_cons]
      simp [this]
    · have hne : y.1 ≠ x.1 := fun h => hn.1 (h ▸ List.mem_map.2 ⟨x, hx, rfl⟩)
      rw [List.filter_cons]
      simp only [hne, decide_false, Bool.not_false, if_true]
      exact ((perm_out hn.2 hx).cons y).trans (List.Perm.swap x y _)
theorem perm_split {α : Type} {x : α} {l : List α} (h : x ∈ l) : ∃ l', l.Perm (x :: l') := by
  obtain ⟨s, t, rfl⟩ := List.append_of_mem h
  exact ⟨s ++ t, List.perm_middle⟩
/-- the entries that have not come yet, in the model -/
theorem left_spec {ok : Nat → Prop} {ka : KK} {va : Bool} {me : List (Nat × List D × List D)} {cl : Nat} {es : Array MapEntry} (hm : MapG w ok ka va me cl es) (seen : Array Nat) :
    (∀ e ∈ (es.filter fun e => !seen.contains e.born).toList, ∃ g ∈ me, e.born = g.1 ∧ !seen.contains g.1 ∧ e.born < cl ∧ VRep w ok ka.isAgg g.2.1 e.key ∧ VRep w ok va g.2.2 e.val) ∧
    ((es.filter fun e => !seen.contains e.born).isEmpty = true ↔ (me.filter fun e => !seen.contains e.1) = []) := by
  have hat : ∀ j (h : j < es.size), ∃ g ∈ me, es[j].born = g.1 ∧ VRep w ok ka.isAgg g.2.1 es[j].key ∧ VRep w ok va g.2.2 es[j].val := by
    intro j h
    have h' : j < me.length := by rw [← hm.len]; exact h
    obtain ⟨y, g1, g2, g3, g4⟩ := hm.at_ j me[j] (List.getElem?_eq_getElem h')
    rw [Array.getElem?_eq_getElem h] at g1
    obtain rfl := Option.some.inj g1
    exact ⟨me[j], List.getElem_mem h', g2, g3, g4⟩
  refine ⟨fun e he => ?_, ?_⟩
  · have h1 : e ∈ es.filter fun e => !seen.contains e.born := Array.mem_toList_iff.1 he
    obtain ⟨h2, h3⟩ := Array.mem_filter.1 h1
    obtain ⟨j, hj, rfl⟩ := Array.mem_iff_getElem.1 h2
    obtain ⟨g, hg, q1, q2, q3⟩ := hat j hj
    exact ⟨g, hg, q1, by rw [← q1]; exact h3, by rw [q1]; exact hm.lt g hg, q2, q3⟩
  · rw [Array.isEmpty_iff, List.filter_eq_nil_iff]
    constructor
    · intro h e he
      obtain ⟨j, hj, rfl⟩ := List.mem_iff_getElem.1 he
      have hj' : j < es.size := by rw [hm.len]; exact hj
      obtain ⟨y, g1, g2, _⟩ := hm.at_ j me[j] (List.getElem?_eq_getElem hj)
      intro hc
      have : y ∈ es.filter fun e => !seen.contains e.born := Array.mem_filter.2 ⟨Array.mem_of_getElem? g1, by rw [g2]; exact hc⟩
      rw [h] at this
      simp at this
    · intro h
      rw [Array.filter_eq_empty_iff]
      intro e he hc
      obtain ⟨j, hj, rfl⟩ := Array.mem_iff_getElem.1 he
      obtain ⟨g, hg, q1, _⟩ := hat j hj
      rw [q1] at hc
      exact h g hg hc
theorem aops_next {α : Type} {enc : α → List D × List D} {ls : List α} {x : Operand} {idI idM : Nat} {ka : KK} {va : Bool} {me : List (Nat × List D × List D)} {cl : Nat} {cur : Option (Nat × List D × List D)}
    (hg : guardB ops o st = some true) (hd : ∀ d, o.dst = some d → d < nt) (ho : o.op = .next x false) (hx : st.ev x = some (.v (.one (.box idI 0)))) (hI : st.box idI = some [.iterc idM me cl (ls.map enc) cur]) (hM : st.box idM = some [.mapg ka va me cl])
    (hend : ls = [] → Aops P nt ops base (k + 1) l K (st.app o.dst ⟨.tup [.one (.d (.bool false))], [], [], [idI]⟩))
    (hstep : ∀ (y : α) (ls' : List α) (b : Nat), ls.Perm (y :: ls') → Aops P nt ops base (k + 1) l K (st.app o.dst ⟨.tup [.one (.d (.bool true)), valT ka.isAgg (enc y).1, valT va (enc y).2], [], [(idI, some [.iterc idM me cl (ls'.map enc) (some (b, enc y))])], [idI]⟩)) :
    Aops P nt ops base k (o :: l) K st := by
  intro hk hl B C a w Q hQ hi
  obtain ⟨h1, h2⟩ := drop_cons hl
  have h1' : ops[k]? = some o := by simpa using h1
  have hk' : k + 1 ≤ ops.size := (Array.getElem?_eq_some_iff.1 h1').1
  show wpOps P ops Q (k :: List.range' (k + 1) l.length) a w
  simp only [wpOps, h1', wanted_eq hi hg, if_true]
  have hN : ∀ j, j < 1000 → From (base + 1000 * k) (base + 1000 * k + j) := fun j _ => show base + 1000 * k ≤ base + 1000 * k + j by omega
  have hsub : ∀ id, From (base + 1000 * (k + 1)) id → Less (From (base + 1000 * k)) (base + 1000 * k) id := fun id hid => by
    have h3 : base + 1000 * (k + 1) ≤ id := hid
    exact ⟨show base + 1000 * k ≤ id by omega, by omega⟩
  obtain ⟨b, hb, hv⟩ := (ev_sound hi hx).1
  obtain ⟨b', bM, seen, hb', hbM, hh, hp, hc⟩ := box_iter (hi.box idI _ hI)
  rw [hb] at hb'; cases hb'
  obtain ⟨bM', es, hbM', hhM, hm⟩ := box_mapg (hi.box idM _ hM)
  rw [hbM] at hbM'; cases hbM'
  obtain ⟨s1, s2⟩ := left_spec hm seen
  have hgI : ∀ w1 : World, w1.heap = w.heap → (getObj b).run P w1 = .ok (.mapIter (some bM) cl seen cl) w1 := fun w1 hw => by simp [getObj, Sem.run, hw, hh]
  have hgM : ∀ w1 : World, w1.heap = w.heap → (getObj bM).run P w1 = .ok (.map es cl) w1 := fun w1 hw => by simp [getObj, Sem.run, hw, hhM]
  have hborn : (!seen.isEmpty && !es.isEmpty && es.all (·.born ≥ cl)) = false := by
    cases he : es.isEmpty with
    | true => simp
    | false =>
      have : es.all (·.born ≥ cl) = false := by
        rw [Bool.eq_false_iff]
        intro hall
        have hsz : 0 < es.size := by
          have : ¬ es.size = 0 := by simpa [Array.isEmpty] using he
          omega
        have h3 := (Array.all_eq_true.1 hall) 0 hsz
        have hj' : 0 < me.length := by rw [← hm.len]; exact hsz
        obtain ⟨y, g1, g2, _⟩ := hm.at_ 0 me[0] (List.getElem?_eq_getElem hj')
        rw [Array.getElem?_eq_getElem hsz] at g1
        obtain rfl := Option.some.inj g1
        have := hm.lt me[0] (List.getElem_mem hj')
        simp at h3
        omega
      rw [this]; simp
  have hbornP : ¬ ((¬ seen = #[] ∧ ¬ es = #[]) ∧ ∀ (i : Nat) (x : i < es.size), cl ≤ es[i].born) := by
    intro hx
    have : (!seen.isEmpty && !es.isEmpty && es.all (·.born ≥ cl)) = true := by simpa using hx
    rw [hborn] at this; cases this
  generalize hL : es.filter (fun e => !seen.contains e.born) = L at s1 s2
  have hold : L.filter (·.born < cl) = L := by
    apply Array.ext'
    rw [Array.toList_filter]
    exact List.filter_eq_self.2 fun e he => by
      obtain ⟨g, _, _, _, q, _⟩ := s1 e he
      simpa using q
  have hnew : L.filter (·.born ≥ cl) = #[] := by
    rw [Array.filter_eq_empty_iff]
    intro e he hc
    obtain ⟨g, _, _, _, q, _⟩ := s1 e (Array.mem_toList_iff.2 he)
    simp at hc
    omega
  by_cases hemp : L.isEmpty = true
  · -- nothing is left
    have hls : ls = [] := by
      have := s2.1 hemp
      rw [this] at hp
      have := hp.length_eq
      simpa using this
    have hLe : L = #[] := Array.isEmpty_iff.1 hemp
    have hrun : (execOp a.eval o).run P w = .ok (.value (.tuple #[.bool false])) w := by
      obtain ⟨j, w', c1, c2, c3⟩ := run_choose (P := P) (n := 1) (by omega) w
      have hj : j = 0 := by omega
      subst hj
      have hw' : w' = w := by
        have : (choose (.mapNext 1)).run P w = .ok 0 w := by simp [choose, Sem.run, Question.forced]
        rw [this] at c1
        injection c1 with _ c1
        exact c1.symm
      subst hw'
      have hr : (Instr.next (a.eval x) false o.type).run P w' = .ok (.tuple #[.bool false]) w' := by
        rw [hv]
        simp only [Instr.next, Sem.run_bind, hgI w' rfl, hgM w' rfl, Result.andThen_ok, hborn, Bool.false_eq_true, if_false, hL, hold, hnew, hLe]
        simp [Question.forced, Result.andThen]
      simp [execOp, ho, hr, Result.andThen]
    left
    unfold Oper.wp
    rw [hrun]
    have hA : After B (From (base + 1000 * k)) (Less (From (base + 1000 * k)) (base + 1000 * k)) C st w ⟨.tup [.one (.d (.bool false))], [], [], [idI]⟩ (.tuple #[.bool false]) C w := after_pure hi _ (tv := .tup [.one (.d (.bool false))]) (v := .tuple #[.bool false]) ⟨_, rfl, rfl, fun j q hj => by
      match j, hj with
      | 0, hj => simp at hj; subst hj; exact ⟨_, rfl, .bool _⟩⟩ (fun r hr => by simp [TV.refs, T1.refs, Cell.refs] at hr)
    exact hend hls hk' h2 B C _ w Q hQ ((hA.inv hi hd).sub hsub)
  · have hsz : 0 < L.size := by
      have : ¬ L.size = 0 := by simpa [Array.isEmpty] using hemp
      omega
    have hLf : L.isEmpty = false := by simpa using hemp
    obtain ⟨j, w', c1, c2, c3⟩ := run_choose (P := P) hsz w
    have hw'h : w'.heap = w.heap := by rcases c3 with rfl | rfl <;> rfl
    have hi' : Inv B (From (base + 1000 * k)) nt C st a w' := by
      rcases c3 with rfl | rfl
      · exact hi
      · exact hi.drawn
    obtain ⟨g, hg1, hg2, hg3, _, hg4, hg5⟩ := s1 L[j] (by rw [← Array.getElem_toList]; exact List.getElem_mem _)
    -- which of ours it is
    have hin : g ∈ me.filter fun e => !seen.contains e.1 := List.mem_filter.2 ⟨hg1, hg3⟩
    have hnd : ((me.filter fun e => !seen.contains e.1).map (·.1)).Nodup := by
      have : (me.map (·.1)).Nodup := hm.rise.imp fun h => Nat.ne_of_lt h
      exact (List.Sublist.map _ List.filter_sublist).nodup this
    have hout := perm_out hnd hin
    have hg6 : g.2 ∈ ls.map enc := hp.mem_iff.2 (List.mem_map.2 ⟨g, hin, rfl⟩)
    obtain ⟨y, hy, hyg⟩ := List.mem_map.1 hg6
    obtain ⟨ls', hls'⟩ := perm_split hy
    have hrest : (ls'.map enc).Perm (((me.filter fun e => !seen.contains e.1).filter fun e => !decide (e.1 = g.1)).map (·.2)) := by
      have q1 : (enc y :: ls'.map enc).Perm (g.2 :: ((me.filter fun e => !seen.contains e.1).filter fun e => !decide (e.1 = g.1)).map (·.2)) :=
        ((hls'.map enc).symm.trans hp).trans (hout.map (·.2))
      rw [hyg] at q1
      exact List.Perm.cons_inv q1
    have hseen : ((me.filter fun e => !seen.contains e.1).filter fun e => !decide (e.1 = g.1)) = me.filter fun e => !(seen.push g.1).contains e.1 := by
      rw [List.filter_filter]
      refine List.filter_congr fun e _ => ?_
      rw [Array.contains_push]
      by_cases h3 : e.1 = g.1
      · simp [h3]
      · simp [h3]
    rw [hseen] at hrest
    have hsetI : (setObj b (.mapIter (some bM) cl (seen.push g.1) cl)).run P w' = .ok () { w' with heap := w'.heap.setIfInBounds b (.mapIter (some bM) cl (seen.push g.1) cl) } := by
      simp [setObj, Sem.run, hw'h, hh]
    have hcand : ((if L.isEmpty = true then #[none] else #[]) ++ Array.map some (L ++ #[]))[j]? = some (some L[j]) := by
      simp [hLf, c2]
    have hcs : ((if L.isEmpty = true then #[none] else #[]) ++ Array.map some (L ++ #[])).size = L.size := by
      simp [hLf]
    have hrun : (execOp a.eval o).run P w = .ok (.value (.tuple #[.bool true, L[j].key, L[j].val])) { w' with heap := w'.heap.setIfInBounds b (.mapIter (some bM) cl (seen.push g.1) cl) } := by
      have hr : (Instr.next (a.eval x) false o.type).run P w = .ok (.tuple #[.bool true, L[j].key, L[j].val]) { w' with heap := w'.heap.setIfInBounds b (.mapIter (some bM) cl (seen.push g.1) cl) } := by
        rw [hv]
        rw [← hg2] at hsetI ⊢
        simp only [Instr.next, Sem.run_bind, hgI w rfl, hgM w rfl, Result.andThen_ok, hborn, Bool.false_eq_true, if_false, hL, hold, hnew, hcs, c1, hcand, hsetI, Sem.run_pure]
      simp [execOp, ho, hr, Result.andThen]
    have hhI : w'.heap[b]? = some (.mapIter (some bM) cl seen cl) := by rw [hw'h]; exact hh
    have hnM : ¬ From (base + 1000 * k) idM := fun hn => by rw [hi.res.box idM hn] at hM; cases hM
    have href : ∀ c ∈ [Cell.iterc idM me cl (ls'.map enc) (some (g.1, enc y))], ∀ r ∈ c.refs, ¬ From (base + 1000 * k) r := fun c hc r hr => by
      rw [List.mem_singleton] at hc; subst hc; simp [Cell.refs] at hr; subst hr; exact hnM
    obtain ⟨hm1, hm2⟩ := hi'.toMm.put_obj (cs' := [.iterc idM me cl (ls'.map enc) (some (g.1, enc y))]) hi'.res hi'.ancN hI hb hhI (set_put1 hhI) (.inr (.inr (.inl ⟨bM, cl, seen.push g.1, cl, rfl, rfl⟩))) (.inr ⟨fun _ _ _ h => (by cases h), _, rfl, rfl⟩) rfl
      (fun _ _ _ h => (by cases h)) href (fun j c hj => by
        match j, hj with
        | 0, hj =>
          simp at hj
          subst hj
          exact ⟨_, rfl, bM, seen.push g.1, hbM, rfl, hrest, fun e he => by
            injection he with he
            subst he
            rw [hyg]
            exact ⟨hg1, by simp⟩⟩)
    left
    unfold Oper.wp
    rw [hrun]
    have hvk : T1Rep (CRep w' (okOf B st C w') C st.own) (valT ka.isAgg (enc y).1) L[j].key := by
      rw [hyg]; exact vrep_valT (hg4.mono (fun b _ => by rw [hw'h]) (fun b hb => by unfold okOf at hb ⊢; rw [hw'h]; exact hb))
    have hvv : T1Rep (CRep w' (okOf B st C w') C st.own) (valT va (enc y).2) L[j].val := by
      rw [hyg]; exact vrep_valT (hg5.mono (fun b _ => by rw [hw'h]) (fun b hb => by unfold okOf at hb ⊢; rw [hw'h]; exact hb))
    have hA : After B (From (base + 1000 * k)) (Less (From (base + 1000 * k)) (base + 1000 * k)) C st w' ⟨.tup [.one (.d (.bool true)), valT ka.isAgg (enc y).1, valT va (enc y).2], [], [(idI, some [.iterc idM me cl (ls'.map enc) (some (g.1, enc y))])], [idI]⟩ (.tuple #[.bool true, L[j].key, L[j].val]) C { w' with heap := w'.heap.setIfInBounds b (.mapIter (some bM) cl (seen.push g.1) cl) } := by
      have hrf : ∀ r ∈ (TV.tup [.one (.d (.bool true)), valT ka.isAgg (enc y).1, valT va (enc y).2]).refs, ¬ Less (From (base + 1000 * k)) (base + 1000 * k) r := fun r hr => by
        have hr' : r ∈ [T1.one (.d (.bool true)), valT ka.isAgg (enc y).1, valT va (enc y).2].flatMap T1.refs := hr
        obtain ⟨u, hu1, hu2⟩ := List.mem_flatMap.1 hr'
        simp only [List.mem_cons, List.not_mem_nil, or_false] at hu1
        rcases hu1 with rfl | rfl | rfl
        · cases hu2
        · rw [valT_refs] at hu2; cases hu2
        · rw [valT_refs] at hu2; cases hu2
      refine ⟨hm2, hm1.keep, ?_, res_put_box _ hi'.res hI href, hrf, fun _ hid => hid.1⟩
      have mv : ∀ (t : T1) (v : Value), t.refs = [] → T1Rep (CRep w' (okOf B st C w') C st.own) t v → T1Rep (CRep { w' with heap := w'.heap.setIfInBounds b (.mapIter (some bM) cl (seen.push g.1) cl) } (okOf B { st with box := upd st.box idI (some [.iterc idM me cl (ls'.map enc) (some (g.1, enc y))]) } C { w' with heap := w'.heap.setIfInBounds b (.mapIter (some bM) cl (seen.push g.1) cl) }) C st.own) t v := fun t v ht hr =>
        hr.imp fun c u hcr hcu => hm1.keep c u (fun r hrc => by have := hcr r hrc; rw [ht] at this; cases this) hcu
      refine ⟨_, rfl, rfl, fun j q hj => ?_⟩
      match j, hj with
      | 0, hj => simp at hj; subst hj; exact ⟨_, rfl, .bool _⟩
      | 1, hj => simp at hj; subst hj; exact ⟨_, rfl, mv _ _ (valT_refs _ _) hvk⟩
      | 2, hj => simp at hj; subst hj; exact ⟨_, rfl, mv _ _ (valT_refs _ _) hvv⟩
    exact hstep y ls' g.1 hls' hk' h2 B C _ _ Q hQ ((hA.inv hi' hd).sub hsub)

/-! ### The entry of this round -/
theorem does_entry {x : Operand} {idI idM : Nat} {ka : KK} {va : Bool} {me : List (Nat × List D × List D)} {cl : Nat} {rest : List (List D × List D)} {b : Nat} {e : List D × List D}
    (ho : o.op = .entry x) (hx : st.ev x = some (.v (.one (.box idI 0)))) (hI : st.box idI = some [.iterc idM me cl rest (some (b, e))]) (hM : st.box idM = some [.mapg ka va me cl]) :
    Does P o base st ⟨.tup [valT ka.isAgg e.1, valT va e.2], [], [], [idI]⟩ := by
  intro B N nt C a w K Q h hN hK
  obtain ⟨bI, hb, hv⟩ := (ev_sound h hx).1
  obtain ⟨b', bM, seen, hb', hbM, hh, hp, hc⟩ := box_iter (h.box idI _ hI)
  rw [hb] at hb'; cases hb'
  obtain ⟨bM', es, hbM', hhM, hm⟩ := box_mapg (h.box idM _ hM)
  rw [hbM] at hbM'; cases hbM'
  obtain ⟨c1, c2⟩ := hc _ rfl
  obtain ⟨j, hj, hje⟩ := List.mem_iff_getElem.1 c1
  have hj' : j < es.size := by rw [hm.len]; exact hj
  obtain ⟨y, g1, g2, g3, g4⟩ := hm.at_ j me[j] (List.getElem?_eq_getElem hj)
  rw [hje] at g2 g3 g4
  have hbm : ∀ z ∈ es, z.born = b → z = y := by
    intro z hz hzb
    obtain ⟨i, hi, rfl⟩ := Array.mem_iff_getElem.1 hz
    have hi' : i < me.length := by rw [← hm.len]; exact hi
    obtain ⟨z', q1, q2, _⟩ := hm.at_ i me[i] (List.getElem?_eq_getElem hi')
    rw [Array.getElem?_eq_getElem hi] at q1
    obtain rfl := Option.some.inj q1
    have hij : i = j := by
      have hn : (me.map (·.1)).Nodup := hm.rise.imp fun h => Nat.ne_of_lt h
      refine (List.getElem_inj (h₀ := by simpa using hi') (h₁ := by simpa using hj) hn).1 ?_
      simp only [List.getElem_map]
      rw [← q2, hzb, hje]
    subst hij
    rw [Array.getElem?_eq_getElem hi] at g1
    exact Option.some.inj g1
  have hyb : y.born = b := g2
  have hfind : es.find? (·.born == b) = some y := by
    cases hf : es.find? (·.born == b) with
    | none =>
      have := Array.find?_eq_none.1 hf y (Array.mem_of_getElem? g1)
      simp [hyb] at this
    | some z =>
      have h1 := Array.find?_some hf
      rw [hbm z (Array.mem_of_find?_eq_some hf) (by simpa using h1)]
  have hgI : (getObj bI).run P w = .ok (.mapIter (some bM) cl seen cl) w := by simp [getObj, Sem.run, hh]
  have hgM : (getObj bM).run P w = .ok (.map es cl) w := by simp [getObj, Sem.run, hhM]
  have hr : (Instr.entry (a.eval x)).run P w = .ok (.tuple #[y.key, y.val]) w := by
    rw [hv]
    have hcl : (cl != cl) = false := by simp
    simp only [Instr.entry, Sem.run_bind, hgI, hgM, Result.andThen_ok, c2, hcl, Bool.false_eq_true, if_false, hfind, Sem.run_pure]
  unfold Oper.wp
  have hrun : (execOp a.eval o).run P w = .ok (.value (.tuple #[y.key, y.val])) w := by simp [execOp, ho, hr, Result.andThen]
  rw [hrun]
  refine hK _ _ C (after_pure h base (tv := .tup [valT ka.isAgg e.1, valT va e.2]) ⟨_, rfl, rfl, fun i q hi => ?_⟩ fun r hr => ?_)
  · match i, hi with
    | 0, hi => simp at hi; subst hi; exact ⟨_, rfl, vrep_valT g3⟩
    | 1, hi => simp at hi; subst hi; exact ⟨_, rfl, vrep_valT g4⟩
  · have hr' : r ∈ [valT ka.isAgg e.1, valT va e.2].flatMap T1.refs := hr
    obtain ⟨u, hu1, hu2⟩ := List.mem_flatMap.1 hr'
    simp only [List.mem_cons, List.not_mem_nil, or_false] at hu1
    rcases hu1 with rfl | rfl <;> rw [valT_refs] at hu2 <;> cases hu2

/-! ### The length of a map; what is taken out of one -/
theorem exec_builtin {b : Builtin} {al : List Operand} {tl : List TypeId} {v : Value} {w w' : World} {a : Act} {s : TypeId → Sem Value} (ho : o.op = .call ⟨.builtin b, ⟨al⟩, ⟨tl⟩⟩)
    (hb : ∀ ty cs, builtin b ⟨tl⟩ ty cs (al.map a.eval).toArray = (do pure (Next.value (← s ty)))) (hs : ∀ ty, (s ty).run P w = .ok v w') : (execOp a.eval o).run P w = .ok (.value v) w' := by
  have hm : (Array.mk al).map a.eval = (al.map a.eval).toArray := by simp
  simp only [execOp, ho, resolve, invoke, Sem.run_bind, Sem.run_pure, Result.andThen_ok, hm, hb, hs]
theorem does_lenM (hΓ : TypesOk P Γ) {t kt et : TypeId} {x : Operand} {id : Nat} {ka : KK} {va : Bool} {es : List (List D × List D)}
    (ho : o.op = .call ⟨.builtin .len, #[x], #[t]⟩) (ht : (Γ.lookup t).map (·.kind) = some (.map kt et)) (hx : st.ev x = some (.v (.one (.mapp id)))) (hM : st.box id = some [.mapc ka va es]) :
    Does P o base st ⟨.i (es.length : Nat), [], [], [id]⟩ := by
  intro B N nt C a w K Q h hN hK
  obtain ⟨b, hb, hv⟩ := (ev_sound h hx).1
  obtain ⟨b', me, cl, es0, hb', hh, hm, hp⟩ := box_mapc (h.box id _ hM)
  rw [hb] at hb'; cases hb'
  obtain ⟨ti, hti, hk⟩ := Option.map_eq_some_iff.1 ht
  obtain ⟨_, _, d, _, _, _, _, hu, _, hkk, _⟩ := TIok.facts (hΓ.ok t _ hti)
  rw [hk] at hkk
  rw [kind_map hkk] at hu
  have hlen : es0.size = es.length := by
    rw [hm.len]
    have := hp.length_eq
    simpa using this.symm
  have hgM : (getObj b).run P w = .ok (.map es0 cl) w := by simp [getObj, Sem.run, hh]
  have hrun : (execOp a.eval o).run P w = .ok (.value (.int .i64 es.length)) w := by
    refine exec_builtin (s := fun ty => Builtin.len_ #[t] ty #[a.eval x]) ho (fun _ _ => rfl) fun ty => ?_
    simp [hv, Builtin.len_, run_underlying hu, hgM, goInt, hlen, Result.andThen]
  unfold Oper.wp
  rw [hrun]
  exact hK _ _ C (after_pure h base (tv := .i (es.length : Nat)) (DRep.int _ _) fun r hr => by simp [TV.refs, T1.refs, Cell.refs] at hr)
def mdel (l : List (List D × List D)) (x : List D) : List (List D × List D) := l.filter fun e => !keq x e.1
theorem erase_filter {x : List D} {kk : KK} (hk : kk.isAgg = false) (hx : kk.fits x = true) : ∀ {me : List (Nat × List D × List D)} {j : Nat} {e : Nat × List D × List D}, (∀ g ∈ me, kk.fits g.2.1 = true) → (me.map (·.2.1)).Nodup → me[j]? = some e → e.2.1 = x →
    me.filter (fun g => !keq x g.2.1) = me.eraseIdx j
  | [], j, e, _, _, h, _ => by simp at h
  | g :: me, 0, e, hf, hn, h, hex => by
    simp at h
    subst h
    rw [List.map_cons, List.nodup_cons] at hn
    have h1 : keq x g.2.1 = true := (keq_iff hk hx (hf g (List.mem_cons_self ..))).2 hex.symm
    rw [List.filter_cons]
    simp only [h1, Bool.not_true, Bool.false_eq_true, if_false, List.eraseIdx_zero, List.tail_cons]
    refine List.filter_eq_self.2 fun d hd => ?_
    rw [Bool.not_eq_true', Bool.eq_false_iff]
    intro h2
    have := (keq_iff hk hx (hf d (List.mem_cons_of_mem _ hd))).1 h2
    exact hn.1 (List.mem_map.2 ⟨d, hd, by rw [← this, hex]⟩)
  | g :: me, j + 1, e, hf, hn, h, hex => by
    rw [List.map_cons, List.nodup_cons] at hn
    have h' : me[j]? = some e := by simpa using h
    have h1 : keq x g.2.1 = false := by
      rw [Bool.eq_false_iff]
      intro h2
      have := (keq_iff hk hx (hf g (List.mem_cons_self ..))).1 h2
      exact hn.1 (List.mem_map.2 ⟨e, List.mem_of_getElem? h', by rw [hex, this]⟩)
    rw [List.filter_cons]
    simp only [h1, Bool.not_false, if_true, List.eraseIdx_cons_succ]
    rw [erase_filter hk hx (fun d hd => hf d (List.mem_cons_of_mem _ hd)) hn.2 h' hex]
theorem mapG_erase {ok : Nat → Prop} {kk : KK} {va : Bool} {me : List (Nat × List D × List D)} {cl : Nat} {es : Array MapEntry} (hm : MapG w ok kk va me cl es) {j : Nat} (hj : j < me.length) : MapG w ok kk va (me.eraseIdx j) cl (es.eraseIdxIfInBounds j) := by
  have hje : j < es.size := by rw [hm.len]; exact hj
  have he : es.eraseIdxIfInBounds j = es.eraseIdx j hje := by simp [Array.eraseIdxIfInBounds, hje]
  have hsub : (me.eraseIdx j).Sublist me := List.eraseIdx_sublist _ _
  refine ⟨?_, fun i e hi => ?_, ?_, fun e h => hm.lt e (hsub.subset h), (hsub.map _).nodup hm.keys, fun e h => hm.fit e (hsub.subset h)⟩
  · rw [he, Array.size_eraseIdx, List.length_eraseIdx, if_pos hj, hm.len]
  · rw [List.getElem?_eraseIdx] at hi
    rw [he, Array.getElem?_eraseIdx]
    by_cases hij : i < j
    · rw [if_pos hij] at hi ⊢
      exact hm.at_ i e hi
    · rw [if_neg hij] at hi ⊢
      exact hm.at_ (i + 1) e hi
  · exact hm.rise.sublist (hsub.map _)
theorem does_delM (hΓ : TypesOk P Γ) {t kt kt' et : TypeId} {tk : TI} {m y : Operand} {id : Nat} {kk : KK} {va : Bool} {es : List (List D × List D)} {k : D}
    (ho : o.op = .call ⟨.builtin .delete, #[m, y], #[t, kt']⟩) (ht : (Γ.lookup t).map (·.kind) = some (.map kt et)) (hkt : Γ.lookup kt = some tk) (hm0 : st.ev m = some (.v (.one (.mapp id)))) (hy : st.ev y = some (.v (.one (.d k)))) (hM : st.box id = some [.mapc kk va es])
    (hkk0 : kindK tk.kind = some kk) (hfit : kk.fits [k] = true) : Does P o base st ⟨.tup [], [], [(id, some [.mapc kk va (mdel es [k])])], [id]⟩ := by
  intro B N nt C a w K Q h hN hK
  obtain ⟨b, hb, hv⟩ := (ev_sound h hm0).1
  obtain ⟨b', me, cl, es0, hb', hh, hm, hp⟩ := box_mapc (h.box id _ hM)
  rw [hb] at hb'; cases hb'
  obtain ⟨ti, hti, hk⟩ := Option.map_eq_some_iff.1 ht
  obtain ⟨_, _, d, _, _, _, _, hu, _, hkd, _⟩ := TIok.facts (hΓ.ok t _ hti)
  rw [hk] at hkd
  rw [kind_map hkd] at hu
  obtain ⟨_, _, dk, _, _, _, _, huk, _, hkk, _⟩ := TIok.facts (hΓ.ok kt _ hkt)
  have hkv := (ev_sound h hy).1
  have hks := kindK_simple hkk0
  have hkrep : VRep w (okOf B st C w) kk.isAgg [k] (a.eval y) := .inr ⟨hks, k, rfl, hkv⟩
  obtain ⟨x', e1, e2, e3⟩ := key_val hkk0 hkk hfit hkrep
  injection e1 with e1
  subst e1
  rw [e2] at e3
  obtain ⟨hall, hf⟩ := find_both hkk0 hkk hm hp hfit e3
  have fin : ∃ (es' : Array MapEntry) (me' : List (Nat × List D × List D)), (Builtin.delete_ #[t, kt'] default #[a.eval m, a.eval y]).run P w = .ok (.tuple #[]) { w with heap := w.heap.setIfInBounds b (.map es' cl) } ∧
      MapG w (okOf B st C w) kk va me' cl es' ∧ (mdel es [k]).Perm (me'.map (·.2)) := by
    have hfilt : (mdel es [k]).Perm ((me.filter fun g => !keq [k] g.2.1).map (·.2)) := by
      unfold mdel
      have := hp.filter (fun e => !keq [k] e.1)
      refine this.trans (List.Perm.of_eq ?_)
      rw [List.filter_map]
      rfl
    rcases hf with ⟨f1, f2, f3⟩ | ⟨j, y', e', f1, f4, f5, f6, f7, f2, _⟩
    · refine ⟨es0, me, ?_, hm, hfilt.trans (List.Perm.of_eq ?_)⟩
      · rw [hv, e2]
        simp [Builtin.delete_, run_underlying hu, MapKept.run_getObj_map hh, run_checkKey huk e3, run_findKey huk f1, MapKept.run_setObj_map _ hh, Result.andThen]
      · congr 1
        refine List.filter_eq_self.2 fun g hg => ?_
        rw [Bool.not_eq_true', Bool.eq_false_iff]
        intro h2
        exact f3 g hg ((keq_iff hks hfit (hm.fit g hg)).1 h2).symm
    · have hj : j < me.length := (List.getElem?_eq_some_iff.1 f5).1
      refine ⟨_, _, ?_, mapG_erase hm hj, hfilt.trans (List.Perm.of_eq ?_)⟩
      · rw [hv, e2]
        simp [Builtin.delete_, run_underlying hu, MapKept.run_getObj_map hh, run_checkKey huk e3, run_findKey huk f1, MapKept.run_setObj_map _ hh, Result.andThen]
      · rw [erase_filter hks hfit hm.fit hm.keys f5 f6]
  obtain ⟨es', me', hrun, hm', hp'⟩ := fin
  have href : ∀ c ∈ [Cell.mapc kk va (mdel es [k])], ∀ r ∈ c.refs, ¬ N r := fun c hc r hr => by rw [List.mem_singleton] at hc; subst hc; cases hr
  obtain ⟨hm1, hm2⟩ := h.toMm.put_obj (cs' := [.mapc kk va (mdel es [k])]) h.res h.ancN hM hb hh (set_put1 hh) (.inr (.inl ⟨es', cl, rfl, rfl⟩)) (.inr ⟨fun _ _ _ h => (by cases h), _, rfl, rfl⟩) rfl
    (fun _ _ _ h => (by cases h)) href (fun j c hj => by
      match j, hj with
      | 0, hj =>
        simp at hj
        subst hj
        exact ⟨_, rfl, me', cl, es', rfl, hm', hp'⟩)
  have hrun2 : (execOp a.eval o).run P w = .ok (.value (.tuple #[])) { w with heap := w.heap.setIfInBounds b (.map es' cl) } := by
    refine exec_builtin (s := fun ty => Builtin.delete_ #[t, kt'] ty #[a.eval m, a.eval y]) ho (fun _ _ => rfl) fun ty => ?_
    exact hrun
  unfold Oper.wp
  rw [hrun2]
  exact hK _ _ C ⟨hm2, hm1.keep, ⟨_, rfl, rfl, fun j q hj => by simp at hj⟩, res_put_box base h.res hM href, fun r hr => by simp [TV.refs] at hr, fun _ hi => hi.1⟩
end
end Go.Eng
