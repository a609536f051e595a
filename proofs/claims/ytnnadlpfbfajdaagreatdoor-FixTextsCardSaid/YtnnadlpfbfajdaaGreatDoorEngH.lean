/-
Each operation of the model does what the reckoned effect says: indexes, slices, lengths, loads.
-/
import Derived.Test.YtnnadlpfbfajdaaGreatDoorEngG
namespace Go.Eng
open Go
set_option linter.unusedVariables false
set_option linter.unusedSimpArgs false

section
variable {P : Program} {Γ : Types} {B : Base} {N : Nat → Prop} {nt : Nat} {C : Nat → Option Nat} {st : St} {a : Act} {w : World}

theorem at?_some {α : Type} {l : List α} {i : Int} {x : α} (h : at? l i = some x) : 0 ≤ i ∧ i < (l.length : Int) ∧ l[i.toNat]? = some x := by
  unfold at? at h
  split at h
  · rename_i h0
    obtain ⟨h1, _⟩ := List.getElem?_eq_some_iff.1 h
    exact ⟨h0, by omega, h⟩
  · cases h

/-- What a list of data in memory gives at one place. -/
theorem lst_at {ok : Nat → Prop} {xs : List (List D)} {v : Value} (h : DRep w ok (.lst xs) v) {i : Nat} {ds : List D} (hi : xs[i]? = some ds) {sz : Nat} (hd : ds.length = sz) :
    ∃ (p : Addr) (c : Nat), v = .slice (some p) xs.length c ∧ xs.length ≤ c ∧ ok p.block ∧ ∀ (j : Nat) (x : D), ds[j]? = some x → ∃ u, w.cell? (p.add (i * sz + j)) = some u ∧ DRep w ok x u := by
  cases h with
  | lnil a c => simp at hi
  | lst _ p c sz' val hne hc hok hs hv hr =>
    have : sz' = sz := by rw [← hd]; exact (hs ds (List.mem_of_getElem? hi)).symm
    subst this
    exact ⟨p, c, rfl, hc, hok, fun j x hj => ⟨_, hv i j ds x hi hj, hr i j ds x hi hj⟩⟩

theorem run_indexAt {t e : TypeId} (hu : P.underlying t = some (.slice e)) {i : TypeInfo} (hi : P.info? e = some i) (p : Addr) (len cap : Nat) (k : IntKind) (n : Int) (h0 : 0 ≤ n) (h1 : n < (len : Int)) :
    (Instr.indexAt t (.slice (some p) len cap) (.int k n)).run P w = .ok (.pointer (some (p.add (n.toNat * i.size)))) w := by
  simp [Instr.indexAt, run_underlying hu, asIntOf, h0, h1, sizeOf, typeInfo, hi]

theorem run_indexArr {t e : TypeId} {len : Nat} (hu : P.underlying t = some (.array len e)) {i : TypeInfo} (hi : P.info? e = some i) (p : Addr) (k : IntKind) (n : Int) (h0 : 0 ≤ n) (h1 : n < (len : Int)) :
    (Instr.indexAt t (.pointer (some p)) (.int k n)).run P w = .ok (.pointer (some (p.add (n.toNat * i.size)))) w := by
  simp [Instr.indexAt, run_underlying hu, asIntOf, h0, h1, sizeOf, typeInfo, hi, Instr.sureAddr]

theorem ownEt_some {st : St} {id et sz : Nat} {e : OwnB} (h : ownEt st id et sz = some e) : st.own id = some e ∧ e.et = et ∧ e.sz = sz := by
  unfold ownEt at h
  split at h
  · rename_i e' he
    split at h
    · rename_i hc; injection h with h; subst h; exact ⟨he, hc⟩
    · cases h
  · cases h

theorem sound_indexAddr (hΓ : TypesOk P Γ) (t : TypeId) (x y : Operand) : Sound P Γ (.indexAddr t x y) := by
  intro B N nt C st a w base e h hN he
  simp only [aeff] at he
  split at he
  · rename_i et xs k n ht h1 h2
    split at he
    case h_2 => cases he
    rename_i te ds hte hat
    split at he
    case isFalse => cases he
    rename_i hsz
    injection he with he; subst he
    obtain ⟨_, _, d, _, _, _, _, hu, _, hk, _⟩ := TIok.facts (hΓ.ok t _ ht)
    obtain ⟨ei, _, _, hei, hes, _⟩ := TIok.facts (hΓ.ok et _ hte)
    rw [kind_slice hk] at hu
    obtain ⟨g0, g1, g2⟩ := at?_some hat
    have e1 : DRep w (okOf B st C w) (.lst xs) (a.eval x) := (ev_sound h h1).1
    have e2 := rep_int (ev_sound h h2).1
    obtain ⟨p, c, hv, _, hp, hc⟩ := lst_at e1 g2 hsz
    refine ⟨_, w, C, runs_value fun o' ho => ?_, after_pure (tv := .c (.cp ds)) h base ⟨p.add (n.toNat * te.sz), rfl, by rw [add_block]; exact hp, fun j x hj => ?_⟩ (fun r hr => by simp [TV.refs, T1.refs, Cell.refs] at hr)⟩
    · simp [execOp, ho, hv, e2, run_indexAt hu hei p _ c k n g0 g1, hes]
    · obtain ⟨u, hu, hd⟩ := hc j x hj
      exact ⟨u, by rw [add_add]; exact hu, hd⟩
  · rename_i et id m k n ht h1 h2
    split at he
    case h_2 => cases he
    rename_i te hte
    split at he
    case h_2 => cases he
    rename_i oe hoe
    split at he
    case isFalse => cases he
    rename_i hn
    injection he with he; subst he
    obtain ⟨ho, hoet, hosz⟩ := ownEt_some hoe
    obtain ⟨_, _, d, _, _, _, _, hu, _, hk, _⟩ := TIok.facts (hΓ.ok t _ ht)
    obtain ⟨ei, _, _, hei, hes, _⟩ := TIok.facts (hΓ.ok et _ hte)
    rw [kind_slice hk] at hu
    obtain ⟨e1, e1r⟩ := ev_sound h h1
    have e2 := rep_int (ev_sound h h2).1
    rcases e1 with ⟨_, _, h0⟩ | ⟨b, len, c, hb, hv, _, _, hle⟩
    · have := h0 oe ho; omega
    · refine ⟨.pointer (some ((⟨b, 0, none⟩ : Addr).add (n.toNat * ei.size))), w, C, runs_value fun o' ho' => ?_, after_pure (tv := .c (.ep id n.toNat 0)) h base ?_ e1r⟩
      · have hln := (hle oe ho).1
        simp [execOp, ho', hv, e2, run_indexAt hu hei ⟨b, 0, none⟩ len c k n hn.1 (by rw [hln]; exact hn.2)]
      · intro oe' hoe'
        rw [ho] at hoe'; cases hoe'
        exact ⟨b, hb, by rw [add_off, hes, hosz]; simp⟩
  · rename_i et id lo m k n ht h1 h2
    split at he
    case h_2 => cases he
    rename_i te hte
    split at he
    case h_2 => cases he
    rename_i oe hoe
    split at he
    case isFalse => cases he
    rename_i hn
    injection he with he; subst he
    obtain ⟨ho, hoet, hosz⟩ := ownEt_some hoe
    obtain ⟨_, _, d, _, _, _, _, hu, _, hk, _⟩ := TIok.facts (hΓ.ok t _ ht)
    obtain ⟨ei, _, _, hei, hes, _⟩ := TIok.facts (hΓ.ok et _ hte)
    rw [kind_slice hk] at hu
    obtain ⟨e1, e1r⟩ := ev_sound h h1
    have e2 := rep_int (ev_sound h h2).1
    obtain ⟨p, c, hv, hc, hl, hb⟩ := e1 oe ho
    obtain ⟨b, g1, g2⟩ := hb (by omega)
    subst g2
    refine ⟨.pointer (some ((⟨b, lo * oe.sz, none⟩ : Addr).add (n.toNat * ei.size))), w, C, runs_value fun o' ho' => ?_, after_pure (tv := .c (.ep id (lo + n.toNat) 0)) h base ?_ e1r⟩
    · simp [execOp, ho', hv, e2, run_indexAt hu hei ⟨b, lo * oe.sz, none⟩ m c k n hn.1 hn.2]
    · intro oe' hoe'
      rw [ho] at hoe'; cases hoe'
      exact ⟨b, g1, by rw [add_off, hes, hosz, Nat.add_mul]; simp⟩
  · rename_i len et ds k n ht h1 h2
    split at he
    case h_2 => cases he
    rename_i te hte
    split at he
    case isFalse => cases he
    rename_i hn
    injection he with he; subst he
    obtain ⟨_, _, d, _, _, _, _, hu, _, hk, _⟩ := TIok.facts (hΓ.ok t _ ht)
    obtain ⟨ei, _, _, hei, hes, _⟩ := TIok.facts (hΓ.ok et _ hte)
    rw [kind_array hk] at hu
    have e2 := rep_int (ev_sound h h2).1
    obtain ⟨p, hv, hp, hc⟩ := (ev_sound h h1).1
    refine ⟨_, w, C, runs_value fun o' ho => ?_, after_pure (tv := .c (.cp (ds.drop (n.toNat * te.sz)))) h base ⟨p.add (n.toNat * te.sz), rfl, by rw [add_block]; exact hp, fun j x hj => ?_⟩ (fun r hr => by simp [TV.refs, T1.refs, Cell.refs] at hr)⟩
    · simp [execOp, ho, hv, e2, run_indexArr hu hei p k n hn.1 hn.2.1, hes]
    · rw [List.getElem?_drop] at hj
      obtain ⟨u, hu, hd⟩ := hc _ x hj
      exact ⟨u, by rw [add_add]; exact hu, hd⟩
  · rename_i len et id k n ht h1 h2
    split at he
    case h_2 => cases he
    rename_i te oe hte ho
    split at he
    case isFalse => cases he
    rename_i hn
    injection he with he; subst he
    obtain ⟨_, _, d, _, _, _, _, hu, _, hk, _⟩ := TIok.facts (hΓ.ok t _ ht)
    obtain ⟨ei, _, _, hei, hes, _⟩ := TIok.facts (hΓ.ok et _ hte)
    rw [kind_array hk] at hu
    obtain ⟨e1, e1r⟩ := ev_sound h h1
    have e2 := rep_int (ev_sound h h2).1
    obtain ⟨b, hb, hv⟩ := e1 oe ho
    have hv0 : a.eval x = .pointer (some ⟨b, 0, none⟩) := by rw [hv]; simp
    refine ⟨.pointer (some ((⟨b, 0, none⟩ : Addr).add (n.toNat * ei.size))), w, C, runs_value fun o' ho' => ?_, after_pure (tv := .c (.ep id n.toNat 0)) h base ?_ e1r⟩
    · simp [execOp, ho', hv0, e2, run_indexArr hu hei ⟨b, 0, none⟩ k n hn.1 hn.2.1]
    · intro oe' hoe'
      rw [ho] at hoe'; cases hoe'
      exact ⟨b, hb, by rw [add_off, hes, hn.2.2]; simp⟩
  · cases he

theorem sound_index (hΓ : TypesOk P Γ) (t : TypeId) (x y : Operand) : Sound P Γ (.index t x y) := by
  intro B N nt C st a w base e h hN he
  simp only [aeff] at he
  split at he
  case h_2 => cases he
  rename_i s k n ht h1 h2
  simp only [Option.map_eq_some_iff] at he
  obtain ⟨c, hc, rfl⟩ := he
  obtain ⟨_, _, d, _, _, _, _, hu, _, hk, _⟩ := TIok.facts (hΓ.ok t _ ht)
  rw [kind_str hk] at hu
  have e1 := rep_str (ev_sound h h1).1
  have e2 := rep_int (ev_sound h h2).1
  obtain ⟨g0, g1, g2⟩ := at?_some hc
  obtain ⟨g3, g4⟩ := List.getElem?_eq_some_iff.1 g2
  have hb : (ByteArray.mk s.toArray)[n.toNat]? = some c := by
    have hlt : n.toNat < (ByteArray.mk s.toArray).size := by rw [baSize]; exact g3
    rw [getElem?_pos (ByteArray.mk s.toArray) n.toNat hlt]
    congr 1
  refine ⟨_, w, C, runs_value fun o' ho => ?_, after_d h base (.int .u8 c.toNat)⟩
  simp [execOp, ho, e1, e2, Instr.index, run_underlying hu, asIntOf, g0, hb]

theorem bnd_sound (h : Inv B N nt C st a w) {o : Option Operand} {d n : Int} (he : aeff.bnd st o d = some n) : (o = none ∧ n = d) ∨ ∃ x k, o = some x ∧ a.eval x = .int k n := by
  unfold aeff.bnd at he
  split at he
  · injection he with he; exact .inl ⟨rfl, he.symm⟩
  · rename_i x
    split at he
    · rename_i k n' h1
      injection he with he; subst he
      exact .inr ⟨x, k, rfl, rep_int (ev_sound h h1).1⟩
    · cases he

theorem run_sliceBounds {lo hi : Option Operand} {l r : Int} {len cap : Nat} (b : Bool) (h : Inv B N nt C st a w) (hl : aeff.bnd st lo 0 = some l) (hr : aeff.bnd st hi len = some r)
    (h0 : 0 ≤ l) (h1 : l ≤ r) (h2 : r ≤ (len : Int)) (hc : len ≤ cap) :
    (Instr.sliceBounds b len cap (lo.map a.eval) (hi.map a.eval) none).run P w = .ok (l.toNat, r.toNat, cap) w := by
  have e1 : ∀ (k : IntKind) (n : Int) (y : Nat) (cd : BoundsCode), 0 ≤ n → n ≤ (y : Int) → (Instr.sliceBound (.int k n) y cd).run P w = .ok n.toNat w := fun k n y cd g0 g1 => by
    simp [Instr.sliceBound, asIntOf, g0, g1]
  rcases bnd_sound h hl with ⟨rfl, rfl⟩ | ⟨x, k, rfl, hx⟩ <;> rcases bnd_sound h hr with ⟨rfl, rfl⟩ | ⟨y, k', rfl, hy⟩
  · simp [Instr.sliceBounds]
  · have := e1 k' r cap (if b then .sliceAcap else .sliceAlen) (by omega) (by omega)
    simp [Instr.sliceBounds, hy, this]
  · have := e1 k l len .sliceB (by omega) (by omega)
    simp [Instr.sliceBounds, hx, this]
  · have g1 := e1 k' r cap (if b then .sliceAcap else .sliceAlen) (by omega) (by omega)
    have g2 := e1 k l r.toNat .sliceB (by omega) (by omega)
    simp [Instr.sliceBounds, hx, hy, g1, g2]

theorem sub?_some {α : Type} {l r : List α} {lo hi : Int} (h : sub? l lo hi = some r) : 0 ≤ lo ∧ lo ≤ hi ∧ hi ≤ (l.length : Int) ∧ r = (l.take hi.toNat).drop lo.toNat := by
  unfold sub? at h
  split at h
  · rename_i hc; injection h with h; exact ⟨hc.1, hc.2.1, hc.2.2, h.symm⟩
  · cases h

theorem DRep.sub {ok : Nat → Prop} {xs : List (List D)} {p : Option Addr} {len cap : Nat} (h : DRep w ok (.lst xs) (.slice p len cap)) (l r sz : Nat) (hlr : l ≤ r) (hr : r ≤ xs.length) (hsz : ∀ cs ∈ xs, cs.length = sz) :
    len = xs.length ∧ len ≤ cap ∧ DRep w ok (.lst ((xs.take r).drop l)) (.slice (if cap = l then p else p.map (·.add (l * sz))) (r - l) (cap - l)) := by
  cases h with
  | lnil => simp at hr; obtain rfl : l = 0 := by omega
            subst hr; exact ⟨rfl, Nat.zero_le _, by simpa using DRep.lnil _ _⟩
  | lst _ q c sz' val hne hc hok hs hv hr' =>
    refine ⟨rfl, hc, ?_⟩
    by_cases hlr' : l = r
    · subst hlr'
      have : ((xs.take l).drop l) = [] := by simp
      rw [this, Nat.sub_self]
      exact .lnil _ _
    · have hcl : cap ≠ l := by omega
      rw [if_neg hcl]
      have e0 : sz' = sz := by
        obtain ⟨y, hy⟩ := List.exists_mem_of_ne_nil xs hne
        rw [← hs y hy, hsz y hy]
      subst e0
      have hlen : ((xs.take r).drop l).length = r - l := by simp; omega
      rw [← hlen]
      have hget : ∀ i cs, ((xs.take r).drop l)[i]? = some cs → xs[l + i]? = some cs := fun i cs hi => by
        rw [List.getElem?_drop, List.getElem?_take] at hi
        split at hi
        · exact hi
        · cases hi
      refine .lst _ (q.add (l * sz')) (cap - l) sz' (fun i j => val (l + i) j) ?_ (by omega) (by rw [add_block]; exact hok) ?_ ?_ ?_
      · intro he; rw [he] at hlen; simp at hlen; omega
      · intro cs hcs; exact hs cs (List.mem_of_mem_take (List.mem_of_mem_drop hcs))
      · intro i j cs x hi hj
        rw [add_add, show l * sz' + (i * sz' + j) = (l + i) * sz' + j by rw [Nat.add_mul]; omega]
        exact hv _ j cs x (hget i cs hi) hj
      · intro i j cs x hi hj
        exact hr' _ j cs x (hget i cs hi) hj

theorem drep_lst {ok : Nat → Prop} {xs : List (List D)} {v : Value} (h : DRep w ok (.lst xs) v) : ∃ p len cap, v = .slice p len cap := by
  cases h with
  | lnil a c => exact ⟨_, _, _, rfl⟩
  | lst => exact ⟨_, _, _, rfl⟩

theorem sound_slice (hΓ : TypesOk P Γ) (t : TypeId) (x : Operand) (lo hi : Option Operand) : Sound P Γ (.slice t x lo hi none) := by
  intro B N nt C st a w base e h hN he
  simp only [aeff] at he
  split at he
  · rename_i s ht h1
    split at he
    case h_2 => cases he
    rename_i l r hl hr
    simp only [Option.map_eq_some_iff] at he
    obtain ⟨q, hq, rfl⟩ := he
    obtain ⟨_, _, d, _, _, _, _, hu, _, hk, _⟩ := TIok.facts (hΓ.ok t _ ht)
    rw [kind_str hk] at hu
    have e1 := rep_str (ev_sound h h1).1
    obtain ⟨g0, g1, g2, rfl⟩ := sub?_some hq
    have hb := run_sliceBounds (P := P) false h hl hr g0 g1 g2 (Nat.le_refl _)
    refine ⟨_, w, C, runs_value fun o' ho => ?_, after_d h base (.str _)⟩
    have hb' : (Instr.sliceBounds false (ByteArray.mk s.toArray).size (ByteArray.mk s.toArray).size (lo.map a.eval) (hi.map a.eval) none).run P w = .ok (l.toNat, r.toNat, s.length) w := by
      rw [baSize]; exact hb
    simp [execOp, ho, e1, Instr.sliceAt, Instr.slice, run_underlying hu, hb']
    apply ByteArray.ext
    simp [List.drop_take]
  · rename_i et xs ht h1
    split at he
    case h_2 => cases he
    rename_i te l r hte hl hr
    split at he
    case isFalse => cases he
    rename_i hsz0
    have hszs : ∀ cs ∈ xs, cs.length = te.sz := by simpa using hsz0
    simp only [Option.map_eq_some_iff] at he
    obtain ⟨q, hq, rfl⟩ := he
    obtain ⟨_, _, d, _, _, _, _, hu, _, hk, _⟩ := TIok.facts (hΓ.ok t _ ht)
    obtain ⟨ei, _, _, hei, hes, _⟩ := TIok.facts (hΓ.ok et _ hte)
    rw [kind_slice hk] at hu
    have e1 : DRep w (okOf B st C w) (.lst xs) (a.eval x) := (ev_sound h h1).1
    obtain ⟨g0, g1, g2, rfl⟩ := sub?_some hq
    obtain ⟨p, len, cap, hv⟩ := drep_lst e1
    rw [hv] at e1
    obtain ⟨rfl, hcap, hrep⟩ := e1.sub l.toNat r.toNat te.sz (by omega) (by omega) hszs
    have hb := run_sliceBounds (P := P) true h hl hr g0 g1 g2 hcap
    refine ⟨_, w, C, runs_value fun o' ho => ?_, after_d h base hrep⟩
    simp [execOp, ho, hv, Instr.sliceAt, Instr.slice, run_underlying hu, sizeOf, typeInfo, hei, hb, hes]
  · rename_i et id m ht h1
    split at he
    case h_2 => cases he
    rename_i oe ho
    split at he
    · rename_i te r hte hr
      split at he
      case isFalse => cases he
      rename_i hn
      injection he with he; subst he
      obtain ⟨_, _, d, _, _, _, _, hu, _, hk, _⟩ := TIok.facts (hΓ.ok t _ ht)
      obtain ⟨ei, _, _, hei, hes, _⟩ := TIok.facts (hΓ.ok et _ hte)
      rw [kind_slice hk] at hu
      obtain ⟨e1, e1r⟩ := ev_sound h h1
      have run : ∀ (p : Option Addr) (cap : Nat), a.eval x = .slice p (m.getD oe.xs.length) cap → m.getD oe.xs.length ≤ cap → ∀ o' : Oper, o'.op = .slice t x none hi none → (execOp a.eval o').run P w = .ok (.value (.slice p r.toNat cap)) w := fun p cap hv hc o' ho => by
        have hb := run_sliceBounds (P := P) (lo := none) true h rfl hr (Int.le_refl 0) hn.1 hn.2 hc
        simp [execOp, ho, hv, Instr.sliceAt, Instr.slice, run_underlying hu, sizeOf, typeInfo, hei]
        simp only [Option.map_none] at hb
        rw [hb]
        cases p <;> simp [Addr.add]
      rcases e1 with ⟨g1, g2, g3⟩ | ⟨b, len, c, hb, hv, hc1, hc2, hc3⟩
      · have g4 := g3 oe ho
        refine ⟨_, w, C, runs_value (run none 0 (by rw [g2, g4]) (by omega)), after_pure (tv := .c (.own id (some r.toNat))) h base (.inl ⟨g1, ?_, fun e he => ?_⟩) e1r⟩
        · rw [show r.toNat = 0 by omega]
        · show r.toNat = 0
          omega
      · have g4 := hc3 oe ho
        refine ⟨_, w, C, runs_value (run _ c (by rw [hv, g4.1]) (by rw [← g4.1]; exact hc1)), after_pure (tv := .c (.own id (some r.toNat))) h base (.inr ⟨b, r.toNat, c, hb, rfl, by omega, hc2, fun e he => ?_⟩) e1r⟩
        rw [ho] at he; cases he
        exact ⟨rfl, by omega, g4.2.2⟩
    · rename_i te x' r hte hr
      split at he
      case h_2 => cases he
      rename_i l hl
      split at he
      case isFalse => cases he
      rename_i hn
      injection he with he; subst he
      obtain ⟨_, _, d, _, _, _, _, hu, _, hk, _⟩ := TIok.facts (hΓ.ok t _ ht)
      obtain ⟨ei, _, _, hei, hes, _⟩ := TIok.facts (hΓ.ok et _ hte)
      rw [kind_slice hk] at hu
      obtain ⟨e1, e1r⟩ := ev_sound h h1
      obtain ⟨q, c, hv, hc, hb⟩ : ∃ q c, a.eval x = .slice q oe.xs.length c ∧ oe.xs.length ≤ c ∧ (0 < oe.xs.length → ∃ b, C id = some b ∧ q = some ⟨b, 0, none⟩) := by
        rcases e1 with ⟨g1, g2, g3⟩ | ⟨b, len, c, hb, hv, hc1, hc2, hc3⟩
        · have g4 : oe.xs.length = 0 := g3 oe ho
          exact ⟨none, 0, by rw [g2, g4], by omega, fun h0 => by omega⟩
        · have g4 : len = oe.xs.length := (hc3 oe ho).1
          exact ⟨_, c, by rw [hv, g4], by omega, fun _ => ⟨b, hb, rfl⟩⟩
      have hr : aeff.bnd st hi (oe.xs.length : Nat) = some r := hr
      have hb' := run_sliceBounds (P := P) (lo := some x') true h hl hr hn.1 hn.2.1 hn.2.2.1 hc
      refine ⟨.slice (if c = l.toNat then q else q.map (·.add (l.toNat * ei.size))) (r.toNat - l.toNat) (c - l.toNat), w, C, runs_value fun o' ho' => ?_, after_pure (tv := .c (.view id l.toNat (r.toNat - l.toNat))) h base ?_ e1r⟩
      · simp [execOp, ho', hv, Instr.sliceAt, Instr.slice, run_underlying hu, sizeOf, typeInfo, hei]
        simp only [Option.map_some] at hb'
        rw [hb']
        simp
      · intro oe' hoe'
        rw [ho] at hoe'; cases hoe'
        refine ⟨_, _, rfl, by omega, by omega, fun h0 => ?_⟩
        obtain ⟨b, g1, rfl⟩ := hb (by omega)
        refine ⟨b, g1, ?_⟩
        rw [if_neg (by omega), hes, hn.2.2.2]
        simp [add_off]
    · cases he
  · rename_i et id lo0 m ht h1
    split at he
    case h_2 => cases he
    rename_i oe te l r ho hte hl hr
    split at he
    case isFalse => cases he
    rename_i hn
    injection he with he; subst he
    obtain ⟨_, _, d, _, _, _, _, hu, _, hk, _⟩ := TIok.facts (hΓ.ok t _ ht)
    obtain ⟨ei, _, _, hei, hes, _⟩ := TIok.facts (hΓ.ok et _ hte)
    rw [kind_slice hk] at hu
    obtain ⟨e1, e1r⟩ := ev_sound h h1
    obtain ⟨q, c, hv, hc, hle, hb⟩ := e1 oe ho
    have hb' := run_sliceBounds (P := P) true h hl hr hn.1 hn.2.1 hn.2.2.1 hc
    refine ⟨.slice (if c = l.toNat then q else q.map (·.add (l.toNat * ei.size))) (r.toNat - l.toNat) (c - l.toNat), w, C, runs_value fun o' ho' => ?_, after_pure (tv := .c (.view id (lo0 + l.toNat) (r.toNat - l.toNat))) h base ?_ e1r⟩
    · simp [execOp, ho', hv, Instr.sliceAt, Instr.slice, run_underlying hu, sizeOf, typeInfo, hei, hb']
    · intro oe' hoe'
      rw [ho] at hoe'; cases hoe'
      refine ⟨_, _, rfl, by omega, by omega, fun h0 => ?_⟩
      obtain ⟨b, g1, rfl⟩ := hb (by omega)
      refine ⟨b, g1, ?_⟩
      rw [if_neg (by omega), hes, hn.2.2.2]
      simp [add_off, Nat.add_mul]
  · cases he
end
end Go.Eng
