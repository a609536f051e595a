/-
Maps: making, reading, writing. Each does in the model what the reckoned effect says.
-/
import Derived.Test.YtnnadlpfbfajdaaGreatDoorEngL
import Derived.MapKept
namespace Go.Eng
open Go Go.MapKept
set_option linter.unusedVariables false
set_option linter.unusedSimpArgs false

/-! ### Keys -/
def kval : D → Value
  | .int k n => .int k n
  | .str s => .string ⟨s.toArray⟩
  | _ => Go.undef
theorem kindK_simple {tk : TK} {kk : KK} (h : kindK tk = some kk) : kk.isAgg = false := by
  cases tk <;> simp [kindK] at h <;> subst h <;> rfl
theorem key_val {tk : TK} {kk : KK} {d : TypeDesc} (h1 : kindK tk = some kk) (h2 : kindOk (some d) tk = true) {w : World} {ok : Nat → Prop} {ds : List D} {v : Value} (hf : kk.fits ds = true) (hv : VRep w ok kk.isAgg ds v) :
    ∃ x, ds = [x] ∧ v = kval x ∧ IsKey d v := by
  rcases hv with ⟨h0, _⟩ | ⟨_, x, rfl, hx⟩
  · rw [kindK_simple h1] at h0; cases h0
  · refine ⟨x, rfl, ?_⟩
    cases tk <;> simp [kindK] at h1
    · subst h1
      cases x <;> simp [KK.fits] at hf
      cases hx
      cases d <;> simp [kindOk] at h2
      exact ⟨rfl, trivial⟩
    · subst h1
      cases x <;> simp [KK.fits] at hf
      cases hx
      subst hf
      cases d <;> simp [kindOk] at h2
      subst h2
      exact ⟨rfl, rfl⟩
theorem keq_iff {kk : KK} (hk : kk.isAgg = false) {a b : List D} (ha : kk.fits a = true) (hb : kk.fits b = true) : keq a b = true ↔ a = b := by
  cases kk with
  | agg => cases hk
  | str =>
    match a, b, ha, hb with
    | [.str s], [.str t], _, _ => simp [keq, keq1]
  | int k =>
    match a, b, ha, hb with
    | [.int k1 n], [.int k2 m], ha, hb => simp [keq, keq1]
theorem kval_inj {kk : KK} (hk : kk.isAgg = false) {x y : D} (ha : kk.fits [x] = true) (hb : kk.fits [y] = true) (h : kval x = kval y) : x = y := by
  cases kk with
  | agg => cases hk
  | str =>
    cases x <;> simp [KK.fits] at ha
    cases y <;> simp [KK.fits] at hb
    simp only [kval, Value.string.injEq, ByteArray.mk.injEq] at h
    have := congrArg Array.toList h
    simpa using this
  | int k =>
    cases x <;> simp [KK.fits] at ha
    cases y <;> simp [KK.fits] at hb
    simp only [kval, Value.int.injEq] at h
    obtain ⟨rfl, rfl⟩ := h
    rfl

/-! ### Values -/
theorem vrep_mkT {w : World} {ok : Nat → Prop} {C : Nat → Option Nat} {own : Nat → Option OwnB} {agg : Bool} {ds : List D} {v : Value} {r : T1} (hv : VRep w ok agg ds v) (h : mkT agg (ds.map .d) = some (.v r)) :
    T1Rep (CRep w ok C own) r v ∧ r.refs = [] := by
  rcases hv with ⟨rfl, vs, rfl, hs, hd⟩ | ⟨rfl, x, rfl, hx⟩
  · simp only [mkT, if_true, Option.some.injEq, TV.v.injEq] at h
    subst h
    refine ⟨⟨vs, rfl, by simpa using hs, fun j c hj => ?_⟩, ?_⟩
    · rw [List.getElem?_map] at hj
      cases hx : ds[j]? with
      | none => rw [hx] at hj; cases hj
      | some x =>
        rw [hx] at hj
        injection hj with hj
        subst hj
        exact hd j x hx
    · simp [T1.refs, Cell.refs]
  · simp only [mkT, Bool.false_eq_true, if_false, List.map_cons, List.map_nil, Option.some.injEq, TV.v.injEq] at h
    subst h
    exact ⟨hx, rfl⟩
theorem t1_vrep {w : World} {ok : Nat → Prop} {C : Nat → Option Nat} {own : Nat → Option OwnB} {t : T1} {v : Value} {vs : List D} (h : T1Rep (CRep w ok C own) t v) (hd : toDs t.cells = some vs) : VRep w ok t.isAgg vs v := by
  obtain ⟨f1, f2, f3⟩ := toDs_sound (w := w) (ok := ok) (C := C) (own := own) hd
  cases t with
  | one c =>
    right
    simp only [T1.cells, List.length_cons, List.length_nil] at f1
    obtain ⟨x, rfl⟩ : ∃ x, vs = [x] := by
      match vs, f1 with
      | [x], _ => exact ⟨x, rfl⟩
    obtain ⟨c', h1, h2⟩ := f3 0 x rfl
    simp only [T1.cells, List.getElem?_cons_zero, Option.some.injEq] at h1
    subst h1
    exact ⟨rfl, x, rfl, h2 v h⟩
  | agg cs =>
    left
    obtain ⟨us, rfl, hs, hc⟩ := h
    refine ⟨rfl, us, rfl, by rw [hs]; exact f1.symm, fun j x hj => ?_⟩
    obtain ⟨c, h1, h2⟩ := f3 j x hj
    obtain ⟨u, g1, g2⟩ := hc j c h1
    exact ⟨u, g1, h2 u g2⟩
def zAgg (agg : Bool) : Value → Bool
  | .agg _ => agg
  | .tuple _ => false
  | _ => !agg
theorem zero_agg {P : Program} {t : TypeId} {ti : TI} (h : TIok P t ti = true) {i : TypeInfo} {z : Value} (hi : P.info? t = some i) (hz : i.zero = some z) :
    zAgg ti.agg z = true := by
  unfold TIok at h
  simp only [hi, hz, Bool.and_eq_true] at h
  have h3 := h.2.2
  cases z <;> exact h3
theorem zero_vrep {P : Program} {t : TypeId} {ti : TI} (h : TIok P t ti = true) {w : World} {ok : Nat → Prop} {ds : List D} (hd : toDs ti.zero = some ds) :
    ∃ z, (∀ w' : World, (zeroValue t).run P w' = .ok z w') ∧ VRep w ok ti.agg ds z := by
  obtain ⟨i, z, d, hi, _, _, hz, _, hzc, _, _, hone, _⟩ := TIok.facts h
  refine ⟨z, fun w' => by simp [zeroValue, typeInfo, hi, hz], ?_⟩
  obtain ⟨z1, z2, z3⟩ := zcells_sound (w := w) (ok := ok) (C := fun _ => none) (own := fun _ => none) hzc
  obtain ⟨f1, f2, f3⟩ := toDs_sound (w := w) (ok := ok) (C := fun _ => none) (own := fun _ => none) hd
  have hagg := zero_agg h hi hz
  cases ha : ti.agg with
  | true =>
    left
    cases z <;> simp [ha, zAgg] at hagg
    rename_i vs
    refine ⟨rfl, vs, rfl, by simp [Value.cells] at z1; omega, fun j x hj => ?_⟩
    obtain ⟨c, h1, h2⟩ := f3 j x hj
    obtain ⟨u, g1, g2⟩ := z3 j c h1
    exact ⟨u, by simpa [Value.cells] using g1, h2 u g2⟩
  | false =>
    right
    obtain ⟨v, hv⟩ := hone ha
    have hzv : z = v := by
      cases z <;> simp [ha, Value.cells, zAgg] at hagg hv <;> exact hv
    subst hzv
    rw [hv] at z1 z3
    simp only [List.length_cons, List.length_nil] at z1
    obtain ⟨x, rfl⟩ : ∃ x, ds = [x] := by
      match ds, f1.trans z1.symm with
      | [x], _ => exact ⟨x, rfl⟩
    obtain ⟨c, h1, h2⟩ := f3 0 x rfl
    obtain ⟨u, g1, g2⟩ := z3 0 c h1
    simp at g1
    subst g1
    exact ⟨rfl, x, rfl, h2 _ g2⟩

/-! ### The block of a map -/
theorem box_map {w : World} {R : Cell → Value → Prop} {C : Nat → Option Nat} {id : Nat} {c : Cell} (hc : c.content = true) (h : BoxOk w R C id [c]) :
    ∃ b o v, C id = some b ∧ w.heap[b]? = some o ∧ OV o #[v] ∧ (∀ arr et k, o ≠ .cells arr et k) ∧ R c v := by
  obtain ⟨b, o, arr, h1, h2, h3, h4, h5, h6⟩ := h
  obtain ⟨v, hv, hr⟩ := h6 0 c rfl
  have ha : arr = #[v] := by
    have h5 : arr.size = 1 := h5
    apply Array.ext'
    have : arr.toList.length = 1 := by simpa using h5
    match hl : arr.toList, this with
    | [u], _ =>
      rw [← Array.getElem?_toList, hl] at hv
      simp at hv
      rw [hv]
  subst ha
  refine ⟨b, o, v, h1, h2, h3, ?_, hr⟩
  rcases h4 with ⟨_, _, _, h4⟩ | ⟨h4, _⟩
  · have := (h4 c (List.mem_singleton.2 rfl)).content
    rw [hc] at this; cases this
  · exact h4
theorem box_mapc {w : World} {ok : Nat → Prop} {C : Nat → Option Nat} {own : Nat → Option OwnB} {id : Nat} {kk : KK} {va : Bool} {l : List (List D × List D)} (h : BoxOk w (CRep w ok C own) C id [.mapc kk va l]) :
    ∃ b me clock es, C id = some b ∧ w.heap[b]? = some (.map es clock) ∧ MapG w ok kk va me clock es ∧ l.Perm (me.map (·.2)) := by
  obtain ⟨b, o, v, h1, h2, h3, h4, me, clock, es, rfl, hm, hp⟩ := box_map rfl h
  rcases h3 with ⟨et, rfl⟩ | ⟨es', clock', rfl, h3⟩ | ⟨m, s, a, p, rfl, h3⟩ | ⟨s, p, rfl, h3⟩
  · exact absurd rfl (h4 _ _ _)
  · have : mapVal es clock = mapVal es' clock' := by
      have := congrArg (fun a : Array Value => a[0]?) h3
      simpa using this
    obtain ⟨rfl, rfl⟩ := mapVal_inj this
    exact ⟨b, me, clock, es, h1, h2, hm, hp⟩
  · have : mapVal es clock = iterVal m s a p := by
      have := congrArg (fun a : Array Value => a[0]?) h3
      simpa using this
    exact (mapVal_ne this).elim
  · have : mapVal es clock = sitVal s p := by
      have := congrArg (fun a : Array Value => a[0]?) h3
      simpa using this
    exact (sit_map this.symm).elim

section
variable {P : Program} {Γ : Types}
theorem sound_makeMap (hΓ : TypesOk P Γ) (t : TypeId) (r : Option Operand) : Sound P Γ (.makeMap t r) := by
  intro B N nt C st a w base e h hN he
  cases r with
  | some x => simp [aeff] at he
  | none =>
  simp only [aeff] at he
  split at he
  case h_2 => cases he
  split at he
  case h_2 => cases he
  rename_i tk te htk hte
  split at he
  case h_2 => cases he
  rename_i kk hkk
  injection he with he; subst he
  have hmap : MapG w (okOf B st C w) kk te.agg [] 0 #[] := ⟨rfl, fun j e hj => (by simp at hj), List.Pairwise.nil, fun e he => (by cases he), List.Pairwise.nil, fun e he => (by cases he)⟩
  refine ⟨.map (some w.heap.size), { w with heap := w.heap.push (.map #[] 0) }, upd C base (some w.heap.size), runs_value fun o' ho => ?_, ?_⟩
  · simp [execOp, ho, Instr.makeMap, newObj]
    rfl
  · refine ⟨h.toMm.new_obj h.res h.ancN (hN 0 (by omega)) (new1_alloc w _) (.inr (.inl ⟨#[], 0, rfl, rfl⟩)) (.inr ⟨fun _ _ _ h => (by cases h), _, rfl, rfl⟩) rfl (fun c hc r hr => ?_) (fun j c hj => ?_), ?_, ⟨w.heap.size, upd_same _ _ _, rfl⟩, ?_, ?_, fun _ hi => hi.1⟩
    · rw [List.mem_singleton] at hc; subst hc; cases hr
    · match j, hj with
      | 0, hj =>
        simp at hj
        subst hj
        exact ⟨_, rfl, [], 0, #[], rfl, hmap, List.Perm.refl _⟩
    · exact (Moves.new_box (cs := [.mapc kk te.agg []]) (hN 0 (by omega)) h.res (new1_alloc w _)).keep
    · exact res_new_box h.res (fun c hc r hr => by rw [List.mem_singleton] at hc; subst hc; cases hr)
    · intro r hr hn; simp [TV.refs, T1.refs, Cell.refs] at hr; subst hr; exact less_ne hn rfl
/-! ### Reading -/
theorem mget_find {kk : KK} (hk : kk.isAgg = false) {w : World} {ok : Nat → Prop} {va : Bool} {me : List (Nat × List D × List D)} {clock : Nat} {es : Array MapEntry} {l : List (List D × List D)} (hm : MapG w ok kk va me clock es)
    (hp : l.Perm (me.map (·.2))) {x : D} (hx : kk.fits [x] = true) :
    (∀ e ∈ me, e.2.1 ≠ [x]) → mget l [x] = none := by
  intro hno
  unfold mget
  rw [Option.map_eq_none_iff, List.find?_eq_none]
  intro e he hq
  obtain ⟨g, hg, rfl⟩ := List.mem_map.1 (hp.mem_iff.1 he)
  exact hno g hg ((keq_iff hk hx (hm.fit g hg)).1 hq).symm
theorem mget_hit {kk : KK} (hk : kk.isAgg = false) {w : World} {ok : Nat → Prop} {va : Bool} {me : List (Nat × List D × List D)} {clock : Nat} {es : Array MapEntry} {l : List (List D × List D)} (hm : MapG w ok kk va me clock es)
    (hp : l.Perm (me.map (·.2))) {x : D} (hx : kk.fits [x] = true) {e : Nat × List D × List D} (he : e ∈ me) (hex : e.2.1 = [x]) : mget l [x] = some e.2.2 := by
  have hin : e.2 ∈ l := hp.mem_iff.2 (List.mem_map.2 ⟨e, he, rfl⟩)
  unfold mget
  cases hf : l.find? fun e => keq [x] e.1 with
  | none =>
    have := List.find?_eq_none.1 hf e.2 hin
    rw [(keq_iff hk hx (hm.fit e he)).2 hex.symm] at this
    exact absurd rfl this
  | some g =>
    have hg := List.mem_of_find?_eq_some hf
    have hq : keq [x] g.1 = true := by simpa using List.find?_some hf
    obtain ⟨g', hg', rfl⟩ := List.mem_map.1 (hp.mem_iff.1 hg)
    have hgx := (keq_iff hk hx (hm.fit g' hg')).1 hq
    have : g' = e := by
      have hn := hm.keys
      obtain ⟨i, hi, rfl⟩ := List.mem_iff_getElem.1 hg'
      obtain ⟨j, hj, rfl⟩ := List.mem_iff_getElem.1 he
      have : i = j := by
        have := (List.getElem_inj (h₀ := by simpa using hi) (h₁ := by simpa using hj) hn).1 (by simp only [List.getElem_map]; rw [← hgx, hex])
        exact this
      subst this; rfl
    rw [this]; rfl
/-- what the search in the model's entries finds -/
theorem find_both {kk : KK} {tk : TK} {d : TypeDesc} (h1 : kindK tk = some kk) (h2 : kindOk (some d) tk = true) {w : World} {ok : Nat → Prop} {va : Bool} {me : List (Nat × List D × List D)} {clock : Nat} {es : Array MapEntry} {l : List (List D × List D)}
    (hm : MapG w ok kk va me clock es) (hp : l.Perm (me.map (·.2))) {x : D} (hx : kk.fits [x] = true) (hd : IsKey d (kval x)) :
    (∀ y ∈ es.toList, IsKey d y.key) ∧
    ((Instr.findNow d (kval x) es.toList 0 = some none ∧ mget l [x] = none ∧ (∀ e ∈ me, e.2.1 ≠ [x])) ∨
      ∃ (j : Nat) (y : MapEntry) (e : Nat × List D × List D), Instr.findNow d (kval x) es.toList 0 = some (some (j, y.val)) ∧ es[j]? = some y ∧ me[j]? = some e ∧ e.2.1 = [x] ∧ y.key = kval x ∧ mget l [x] = some e.2.2 ∧ VRep w ok va e.2.2 y.val) := by
  have hkk := kindK_simple h1
  have hall : ∀ y ∈ es.toList, IsKey d y.key := by
    intro y hy
    obtain ⟨j, hj, rfl⟩ := List.mem_iff_getElem.1 hy
    have hj' : j < me.length := by rw [← hm.len]; simpa using hj
    obtain ⟨y', g1, g2, g3, g4⟩ := hm.at_ j me[j] (List.getElem?_eq_getElem hj')
    have : es.toList[j] = y' := by
      have hj2 : j < es.size := by simpa using hj
      rw [Array.getElem?_eq_getElem hj2] at g1
      simpa using Option.some.inj g1
    rw [this]
    obtain ⟨x', _, _, h⟩ := key_val h1 h2 (hm.fit _ (List.getElem_mem hj')) g3
    exact h
  refine ⟨hall, ?_⟩
  rcases findNow_spec hd es.toList 0 hall with ⟨f1, f2⟩ | ⟨j, y, f1, f2, f3⟩
  · left
    have hno : ∀ e ∈ me, e.2.1 ≠ [x] := by
      intro e he hex
      obtain ⟨j, hj, rfl⟩ := List.mem_iff_getElem.1 he
      obtain ⟨y, g1, g2, g3, g4⟩ := hm.at_ j me[j] (List.getElem?_eq_getElem hj)
      obtain ⟨x', e1, e2, _⟩ := key_val h1 h2 (hm.fit _ (List.getElem_mem hj)) g3
      rw [hex] at e1
      injection e1 with e1
      subst e1
      exact f2 y (by
        have := Array.mem_of_getElem? g1
        exact Array.mem_toList_iff.2 this) e2
    exact ⟨f1, mget_find hkk hm hp hx hno, hno⟩
  · right
    have hyj : es[j]? = some y := by simpa using f2
    have hj' : j < me.length := by
      rw [← hm.len]
      exact (Array.getElem?_eq_some_iff.1 hyj).1
    obtain ⟨y', g1, g2, g3, g4⟩ := hm.at_ j me[j] (List.getElem?_eq_getElem hj')
    rw [hyj] at g1
    obtain rfl := Option.some.inj g1
    obtain ⟨x', e1, e2, _⟩ := key_val h1 h2 (hm.fit _ (List.getElem_mem hj')) g3
    have hfx : kk.fits [x'] = true := by rw [← e1]; exact hm.fit _ (List.getElem_mem hj')
    have hxx : x' = x := kval_inj hkk hfx hx (by rw [← e2, f3])
    subst hxx
    exact ⟨j, y, me[j], by simpa using f1, hyj, List.getElem?_eq_getElem hj', e1, f3, mget_hit hkk hm hp hx (List.getElem_mem hj') e1, g4⟩
theorem sound_lookup (hΓ : TypesOk P Γ) (t : TypeId) (x y : Operand) (commaOk : Bool) : Sound P Γ (.lookup t x y commaOk) := by
  intro B N nt C st a w base e h hN he
  simp only [aeff] at he
  split at he
  case h_2 => cases he
  rename_i sz bytes zero agg kt et id k ht hx hy
  split at he
  case h_2 => cases he
  rename_i kk va l tk te hbx htk hte
  split at he
  case h_2 => cases he
  rename_i z hz
  split at he
  case isFalse => cases he
  rename_i hc
  obtain ⟨c1, c2, c3⟩ := hc
  subst c3
  split at he
  case h_2 => cases he
  rename_i r hr
  injection he with he; subst he
  obtain ⟨_, _, d, _, _, _, _, hu, _, hk, _⟩ := TIok.facts (hΓ.ok t _ ht)
  obtain ⟨_, _, dk, _, _, _, _, huk, _, hkk, _⟩ := TIok.facts (hΓ.ok kt _ htk)
  rw [kind_map hk] at hu
  obtain ⟨b, hb, hv⟩ := (ev_sound h hx).1
  have hkv := (ev_sound h hy).1
  obtain ⟨b', me, clock, es, hb', hh, hm, hp⟩ := box_mapc (h.box id _ hbx)
  rw [hb] at hb'; cases hb'
  have hkrep : VRep w (okOf B st C w) kk.isAgg [k] (a.eval y) := .inr ⟨kindK_simple c1, k, rfl, hkv⟩
  obtain ⟨x', e1, e2, e3⟩ := key_val c1 hkk c2 hkrep
  injection e1 with e1
  subst e1
  rw [e2] at e3
  obtain ⟨hall, hf⟩ := find_both c1 hkk hm hp c2 e3
  obtain ⟨zv, hzr, hzv⟩ := zero_vrep (hΓ.ok et _ hte) (w := w) (ok := okOf B st C w) hz
  have hval : ∃ v, (Instr.lookup t (a.eval x) (a.eval y) commaOk).run P w = .ok (if commaOk then .tuple #[v, .bool (mget l [k]).isSome] else v) w ∧ VRep w (okOf B st C w) te.agg ((mget l [k]).getD z) v := by
    rcases hf with ⟨f1, f2, _⟩ | ⟨j, y', e', f1, _, _, _, _, f2, f3⟩
    · refine ⟨zv, ?_, by rw [f2]; exact hzv⟩
      rw [hv, e2, f2]
      simp [Instr.lookup, run_underlying hu, run_getObj_map hh, run_checkKey huk e3, run_findKey huk f1, hzr, Result.andThen]
    · refine ⟨y'.val, ?_, by rw [f2]; exact f3⟩
      rw [hv, e2, f2]
      simp [Instr.lookup, run_underlying hu, run_getObj_map hh, run_checkKey huk e3, run_findKey huk f1, Result.andThen]
  obtain ⟨v, hrun, hvr⟩ := hval
  obtain ⟨r1, r2⟩ := vrep_mkT (C := C) (own := st.own) hvr hr
  refine ⟨_, _, _, runs_value fun o' ho => ?_, after_pure h base (tv := bif commaOk then .tup [r, .one (.d (.bool (mget l [k]).isSome))] else .v r) (v := if commaOk then .tuple #[v, .bool (mget l [k]).isSome] else v) ?_ ?_⟩
  · simp [execOp, ho, hrun]
  · cases commaOk with
    | false => exact r1
    | true =>
      refine ⟨#[v, .bool (mget l [k]).isSome], rfl, rfl, fun j q hj => ?_⟩
      match j, hj with
      | 0, hj => simp at hj; subst hj; exact ⟨v, rfl, r1⟩
      | 1, hj => simp at hj; subst hj; exact ⟨_, rfl, .bool _⟩
  · intro q hq
    cases commaOk with
    | false => simp [TV.refs, r2] at hq
    | true =>
      have hq : q ∈ [r, T1.one (.d (.bool (mget l [k]).isSome))].flatMap T1.refs := hq
      obtain ⟨u, hu1, hu2⟩ := List.mem_flatMap.1 hq
      simp only [List.mem_cons, List.not_mem_nil, or_false] at hu1
      rcases hu1 with rfl | rfl
      · rw [r2] at hu2; cases hu2
      · cases hu2
/-! ### Writing -/
theorem set_put1 {b : Nat} {o o' : Obj} {w : World} (hb : w.heap[b]? = some o) : Put1 w b o' { w with heap := w.heap.setIfInBounds b o' } :=
  ⟨rfl, rfl, rfl, by simp, (heap_set hb).1, (heap_set hb).2⟩
theorem mput_new {l : List (List D × List D)} {x v : List D} (h : mget l x = none) : mput l x v = l ++ [(x, v)] := by
  unfold mget at h
  rw [Option.map_eq_none_iff, List.find?_eq_none] at h
  have : (l.any fun e => keq x e.1) = false := by rw [List.any_eq_false]; exact h
  unfold mput
  rw [this]; rfl
theorem mput_old {l : List (List D × List D)} {x v u : List D} (h : mget l x = some u) : mput l x v = l.map fun e => bif keq x e.1 then (x, v) else e := by
  unfold mget at h
  cases hf : l.find? fun e => keq x e.1 with
  | none => rw [hf] at h; cases h
  | some g =>
    have hq : keq x g.1 = true := by simpa using List.find?_some hf
    have : (l.any fun e => keq x e.1) = true := List.any_eq_true.2 ⟨g, List.mem_of_find?_eq_some hf, hq⟩
    unfold mput
    rw [this]; rfl
theorem mapG_push {w : World} {ok : Nat → Prop} {kk : KK} {va : Bool} {me : List (Nat × List D × List D)} {clock : Nat} {es : Array MapEntry} (hm : MapG w ok kk va me clock es) {x v : List D} {kv vv : Value} (hx : kk.fits x = true)
    (hno : ∀ e ∈ me, e.2.1 ≠ x) (h1 : VRep w ok kk.isAgg x kv) (h2 : VRep w ok va v vv) : MapG w ok kk va (me ++ [(clock, x, v)]) (clock + 1) (es.push { key := kv, val := vv, born := clock }) where
  len := by simp [hm.len]
  at_ j e hj := by
    by_cases hl : j < me.length
    · rw [List.getElem?_append_left hl] at hj
      obtain ⟨y, g1, g2⟩ := hm.at_ j e hj
      refine ⟨y, ?_, g2⟩
      rw [Array.getElem?_push, if_neg (by rw [hm.len]; omega)]
      exact g1
    · rw [List.getElem?_append_right (by omega)] at hj
      have : j - me.length = 0 := by
        have := (List.getElem?_eq_some_iff.1 hj).1
        simp at this; omega
      rw [this] at hj
      simp at hj
      subst hj
      refine ⟨{ key := kv, val := vv, born := clock }, ?_, rfl, h1, h2⟩
      rw [Array.getElem?_push, if_pos (by rw [hm.len]; omega)]
  rise := by
    rw [List.map_append, List.pairwise_append]
    refine ⟨hm.rise, by simp, fun p hp q hq => ?_⟩
    obtain ⟨e, he, rfl⟩ := List.mem_map.1 hp
    simp at hq
    subst hq
    exact hm.lt e he
  lt e he := by
    rcases List.mem_append.1 he with he | he
    · have := hm.lt e he; omega
    · rw [List.mem_singleton] at he; subst he; simp
  keys := by
    rw [List.map_append, List.nodup_append]
    refine ⟨hm.keys, by simp, fun p hp q hq => ?_⟩
    obtain ⟨e, he, rfl⟩ := List.mem_map.1 hp
    simp at hq
    subst hq
    exact hno e he
  fit e he := by
    rcases List.mem_append.1 he with he | he
    · exact hm.fit e he
    · rw [List.mem_singleton] at he; subst he; exact hx
theorem mapG_set {w : World} {ok : Nat → Prop} {kk : KK} {va : Bool} {me : List (Nat × List D × List D)} {clock : Nat} {es : Array MapEntry} (hm : MapG w ok kk va me clock es) (hk : kk.isAgg = false) {x : D} {v : List D} {vv : Value} (hx : kk.fits [x] = true)
    {j : Nat} {e0 : Nat × List D × List D} (hj : me[j]? = some e0) (hex : e0.2.1 = [x]) {kv : Value} (h1 : VRep w ok kk.isAgg [x] kv) (h2 : VRep w ok va v vv) :
    MapG w ok kk va (me.map fun e => bif keq [x] e.2.1 then (e.1, [x], v) else e) clock (es.modify j fun e => { e with key := kv, val := vv }) := by
  have key : ∀ e ∈ me, (bif keq [x] e.2.1 then (e.1, [x], v) else e : Nat × List D × List D).2.1 = e.2.1 ∧ (bif keq [x] e.2.1 then (e.1, [x], v) else e : Nat × List D × List D).1 = e.1 := by
    intro e he
    cases hq : keq [x] e.2.1 with
    | false => exact ⟨rfl, rfl⟩
    | true => exact ⟨(keq_iff hk hx (hm.fit e he)).1 hq, rfl⟩
  have k1 : (me.map fun e => bif keq [x] e.2.1 then (e.1, [x], v) else e).map (·.1) = me.map (·.1) := by
    rw [List.map_map]; exact List.map_congr_left fun e he => (key e he).2
  have k2 : (me.map fun e => bif keq [x] e.2.1 then (e.1, [x], v) else e).map (·.2.1) = me.map (·.2.1) := by
    rw [List.map_map]; exact List.map_congr_left fun e he => (key e he).1
  refine ⟨by simp [hm.len], fun i e hi => ?_, by rw [k1]; exact hm.rise, fun e he => ?_, by rw [k2]; exact hm.keys, fun e he => ?_⟩
  · rw [List.getElem?_map] at hi
    cases hg : me[i]? with
    | none => rw [hg] at hi; cases hi
    | some g =>
      rw [hg] at hi
      injection hi with hi
      subst hi
      obtain ⟨y, g1, g2, g3, g4⟩ := hm.at_ i g hg
      have hgm := List.mem_of_getElem? hg
      by_cases hij : j = i
      · subst hij
        rw [hj] at hg
        obtain rfl := Option.some.inj hg
        have hq : keq [x] e0.2.1 = true := (keq_iff hk hx (hm.fit _ hgm)).2 hex.symm
        refine ⟨{ y with key := kv, val := vv }, by rw [Array.getElem?_modify, if_pos rfl, g1]; rfl, ?_, ?_, ?_⟩
        · simp only [hq, cond_true]; exact g2
        · simp only [hq, cond_true]; exact h1
        · simp only [hq, cond_true]; exact h2
      · have hq : keq [x] g.2.1 = false := by
          rw [Bool.eq_false_iff]
          intro hq
          have hgx := (keq_iff hk hx (hm.fit g hgm)).1 hq
          have hi1 := (List.getElem?_eq_some_iff.1 hg)
          have hj1 := (List.getElem?_eq_some_iff.1 hj)
          obtain ⟨hi1, e1⟩ := hi1
          obtain ⟨hj1, e2⟩ := hj1
          exact hij ((List.getElem_inj (h₀ := by simpa using hj1) (h₁ := by simpa using hi1) hm.keys).1 (by simp only [List.getElem_map]; rw [e1, e2, hex, hgx]))
        refine ⟨y, by rw [Array.getElem?_modify, if_neg hij]; exact g1, ?_, ?_, ?_⟩
        · simp only [hq, cond_false]; exact g2
        · simp only [hq, cond_false]; exact g3
        · simp only [hq, cond_false]; exact g4
  · obtain ⟨g, hg, rfl⟩ := List.mem_map.1 he
    rw [(key g hg).2]; exact hm.lt g hg
  · obtain ⟨g, hg, rfl⟩ := List.mem_map.1 he
    rw [(key g hg).1]; exact hm.fit g hg
theorem sound_mapUpdate (hΓ : TypesOk P Γ) (t : TypeId) (m x y : Operand) : Sound P Γ (.mapUpdate t m x y) := by
  intro B N nt C st a w base e h hN he
  simp only [aeff] at he
  split at he
  case h_2 => cases he
  rename_i sz bytes zero agg kt et id k tv ht hm0 hx hy
  split at he
  case h_2 => cases he
  rename_i kk va l tk hbx htk
  split at he
  case h_2 => cases he
  rename_i vs hvs
  split at he
  case isFalse => cases he
  rename_i hc
  obtain ⟨c1, c2, c3⟩ := hc
  subst c3
  injection he with he; subst he
  obtain ⟨_, _, d, _, _, _, _, hu, _, hk, _⟩ := TIok.facts (hΓ.ok t _ ht)
  obtain ⟨_, _, dk, _, _, _, _, huk, _, hkk, _⟩ := TIok.facts (hΓ.ok kt _ htk)
  rw [kind_map hk] at hu
  obtain ⟨b, hb, hv⟩ := (ev_sound h hm0).1
  have hkv := (ev_sound h hx).1
  have hvr := t1_vrep (ev_sound h hy).1 hvs
  obtain ⟨b', me, clock, es, hb', hh, hm, hp⟩ := box_mapc (h.box id _ hbx)
  rw [hb] at hb'; cases hb'
  have hks := kindK_simple c1
  have hkrep : VRep w (okOf B st C w) kk.isAgg [k] (a.eval x) := .inr ⟨hks, k, rfl, hkv⟩
  obtain ⟨x', e1, e2, e3⟩ := key_val c1 hkk c2 hkrep
  injection e1 with e1
  subst e1
  rw [e2] at e3 hkrep
  obtain ⟨hall, hf⟩ := find_both c1 hkk hm hp c2 e3
  have fin : ∃ (es' : Array MapEntry) (clock' : Nat) (me' : List (Nat × List D × List D)), (Instr.mapUpdate t (a.eval m) (a.eval x) (a.eval y)).run P w = .ok () { w with heap := w.heap.setIfInBounds b (.map es' clock') } ∧
      MapG w (okOf B st C w) kk tv.isAgg me' clock' es' ∧ (mput l [k] vs).Perm (me'.map (·.2)) := by
    rcases hf with ⟨f1, f2, f3⟩ | ⟨j, y', e', f1, f4, f5, f6, f7, f2, _⟩
    · refine ⟨_, _, _, ?_, mapG_push hm c2 f3 hkrep hvr, ?_⟩
      · rw [hv, e2]
        simp [Instr.mapUpdate, run_underlying hu, run_getObj_map hh, run_checkKey huk e3, run_findKey huk f1, run_setObj_map _ hh, Result.andThen]
      · rw [mput_new f2, List.map_append]
        exact hp.append_right _
    · refine ⟨_, _, _, ?_, mapG_set hm hks c2 f5 f6 hkrep hvr, ?_⟩
      · rw [hv, e2]
        simp [Instr.mapUpdate, run_underlying hu, run_getObj_map hh, run_checkKey huk e3, run_findKey huk f1, f4, f7, run_keyThatStays e3, run_setObj_map _ hh, Result.andThen]
      · rw [mput_old f2, List.map_map]
        refine (hp.map _).trans ?_
        rw [List.map_map]
        refine List.Perm.of_eq (List.map_congr_left fun g hg => ?_)
        simp only [Function.comp]
        cases keq [k] g.2.1 <;> rfl
  obtain ⟨es', clock', me', hrun, hm', hp'⟩ := fin
  have href : ∀ c ∈ [Cell.mapc kk tv.isAgg (mput l [k] vs)], ∀ r ∈ c.refs, ¬ N r := fun c hc r hr => by rw [List.mem_singleton] at hc; subst hc; cases hr
  obtain ⟨hm1, hm2⟩ := h.toMm.put_obj (cs' := [.mapc kk tv.isAgg (mput l [k] vs)]) h.res h.ancN hbx hb hh (set_put1 hh) (.inr (.inl ⟨es', clock', rfl, rfl⟩)) (.inr ⟨fun _ _ _ h => (by cases h), _, rfl, rfl⟩) rfl
    (fun _ _ _ h => (by cases h)) href (fun j c hj => by
      match j, hj with
      | 0, hj =>
        simp at hj
        subst hj
        exact ⟨_, rfl, me', clock', es', rfl, hm', hp'⟩)
  refine ⟨Go.undef, _, C, fun o' ho => .inr ⟨?_, rfl⟩, ⟨hm2, hm1.keep, trivial, res_put_box base h.res hbx href, fun r hr => by simp [TV.refs, T1.refs, Cell.refs] at hr, fun _ hi => hi.1⟩⟩
  simp [execOp, ho, hrun]
/-! ### Ranges over strings -/
theorem box_iters {w : World} {ok : Nat → Prop} {C : Nat → Option Nat} {own : Nat → Option OwnB} {id : Nat} {s : List UInt8} {pos : Nat} (h : BoxOk w (CRep w ok C own) C id [.iters s pos]) :
    ∃ b, C id = some b ∧ w.heap[b]? = some (.stringIter ⟨s.toArray⟩ pos) := by
  obtain ⟨b, o, v, h1, h2, h3, h4, hv⟩ := box_map rfl h
  have hv : v = sitVal ⟨s.toArray⟩ pos := hv
  subst hv
  rcases h3 with ⟨et, rfl⟩ | ⟨es', clock', rfl, h3⟩ | ⟨m, s', a, p, rfl, h3⟩ | ⟨s', p, rfl, h3⟩
  · exact absurd rfl (h4 _ _ _)
  · have : sitVal ⟨s.toArray⟩ pos = mapVal es' clock' := by
      have := congrArg (fun a : Array Value => a[0]?) h3
      simpa using this
    exact (sit_map this).elim
  · have : sitVal ⟨s.toArray⟩ pos = iterVal m s' a p := by
      have := congrArg (fun a : Array Value => a[0]?) h3
      simpa using this
    exact (sit_iter this).elim
  · have : sitVal ⟨s.toArray⟩ pos = sitVal s' p := by
      have := congrArg (fun a : Array Value => a[0]?) h3
      simpa using this
    obtain ⟨rfl, rfl⟩ := sitVal_inj this
    exact ⟨b, h1, h2⟩
theorem sound_range (hΓ : TypesOk P Γ) (t : TypeId) (x : Operand) : Sound P Γ (.range t x) := by
  intro B N nt C st a w base e h hN he
  simp only [aeff] at he
  split at he
  case h_2 => cases he
  rename_i sz bytes zero agg s ht hx
  injection he with he; subst he
  obtain ⟨_, _, d, _, _, _, _, hu, _, hk, _⟩ := TIok.facts (hΓ.ok t _ ht)
  rw [kind_str hk] at hu
  have hv : DRep w (okOf B st C w) (.str s) (a.eval x) := (ev_sound h hx).1
  generalize hvv : a.eval x = v at hv
  cases hv
  refine ⟨.pointer (some ⟨w.heap.size, 0, none⟩), { w with heap := w.heap.push (.stringIter ⟨s.toArray⟩ 0) }, upd C base (some w.heap.size), runs_value fun o' ho => ?_, ?_⟩
  · simp [execOp, ho, hvv, Instr.range, run_underlying hu, newObj]
    rfl
  · refine ⟨h.toMm.new_obj h.res h.ancN (hN 0 (by omega)) (new1_alloc w _) (.inr (.inr (.inr ⟨_, 0, rfl, rfl⟩))) (.inr ⟨fun _ _ _ h => (by cases h), _, rfl, rfl⟩) rfl (fun c hc r hr => ?_) (fun j c hj => ?_), ?_, ⟨w.heap.size, upd_same _ _ _, rfl⟩, ?_, ?_, fun _ hi => hi.1⟩
    · rw [List.mem_singleton] at hc; subst hc; cases hr
    · match j, hj with
      | 0, hj =>
        simp at hj
        subst hj
        exact ⟨_, rfl, rfl⟩
    · exact (Moves.new_box (cs := [.iters s 0]) (hN 0 (by omega)) h.res (new1_alloc w _)).keep
    · exact res_new_box h.res (fun c hc r hr => by rw [List.mem_singleton] at hc; subst hc; cases hr)
    · intro r hr hn; simp [TV.refs, T1.refs, Cell.refs] at hr; subst hr; exact less_ne hn rfl
theorem run_getObj_sit {P : Program} {w : World} {r : Nat} {s : ByteArray} {p : Nat} (hb : w.heap[r]? = some (.stringIter s p)) : (getObj r).run P w = .ok (.stringIter s p) w := by
  simp [getObj, Sem.run, hb]
theorem run_setObj_sit {P : Program} {w : World} {r : Nat} {s : ByteArray} {p : Nat} (o : Obj) (hb : w.heap[r]? = some (.stringIter s p)) : (setObj r o).run P w = .ok () { w with heap := w.heap.setIfInBounds r o } := by
  simp [setObj, Sem.run, hb]
theorem sound_next (x : Operand) (is : Bool) : Sound P Γ (.next x is) := by
  intro B N nt C st a w base e h hN he
  cases is with
  | false => simp [aeff] at he
  | true =>
  simp only [aeff] at he
  split at he
  case h_2 => cases he
  rename_i id hx
  split at he
  case h_2 => cases he
  rename_i s pos hbx
  obtain ⟨b, hb, hv⟩ := (ev_sound h hx).1
  obtain ⟨b', hb', hh⟩ := box_iters (h.box id _ hbx)
  rw [hb] at hb'; cases hb'
  split at he
  · rename_i hlt
    injection he with he; subst he
    have href : ∀ c ∈ [Cell.iters s (pos + (dec s pos).2)], ∀ r ∈ c.refs, ¬ N r := fun c hc r hr => by rw [List.mem_singleton] at hc; subst hc; cases hr
    obtain ⟨hm1, hm2⟩ := h.toMm.put_obj (cs' := [.iters s (pos + (dec s pos).2)]) h.res h.ancN hbx hb hh (set_put1 hh) (.inr (.inr (.inr ⟨⟨s.toArray⟩, pos + (dec s pos).2, rfl, rfl⟩))) (.inr ⟨fun _ _ _ h => (by cases h), _, rfl, rfl⟩) rfl
      (fun _ _ _ h => (by cases h)) href (fun j c hj => by
        match j, hj with
        | 0, hj =>
          simp at hj
          subst hj
          exact ⟨_, rfl, rfl⟩)
    refine ⟨.tuple #[.bool true, .int .i64 pos, .int .i32 (dec s pos).1], _, C, runs_value fun o' ho => ?_, ⟨hm2, hm1.keep, ?_, res_put_box base h.res hbx href, fun r hr => by simp [TV.refs, T1.refs, Cell.refs] at hr, fun _ hi => hi.1⟩⟩
    · have hsz : pos < (⟨s.toArray⟩ : ByteArray).size := by simpa [ByteArray.size] using hlt
      simp [execOp, ho, hv, Instr.next, run_getObj_sit hh, run_setObj_sit _ hh, hsz, dec, goInt, Result.andThen]
    · refine ⟨_, rfl, rfl, fun j q hj => ?_⟩
      match j, hj with
      | 0, hj => simp at hj; subst hj; exact ⟨_, rfl, .bool _⟩
      | 1, hj => simp at hj; subst hj; exact ⟨_, rfl, .int _ _⟩
      | 2, hj => simp at hj; subst hj; exact ⟨_, rfl, .int _ _⟩
  · rename_i hlt
    injection he with he; subst he
    refine ⟨_, _, _, runs_value fun o' ho => ?_, after_pure h base (tv := .tup [.one (.d (.bool false))]) (v := .tuple #[.bool false]) ?_ ?_⟩
    · have hsz : ¬ pos < (⟨s.toArray⟩ : ByteArray).size := by simpa [ByteArray.size] using hlt
      simp [execOp, ho, hv, Instr.next, run_getObj_sit hh, hsz, Result.andThen]
    · refine ⟨_, rfl, rfl, fun j q hj => ?_⟩
      match j, hj with
      | 0, hj => simp at hj; subst hj; exact ⟨_, rfl, .bool _⟩
    · intro r hr
      simp [TV.refs, T1.refs, Cell.refs] at hr
end
end Go.Eng
