/-
A state seen through another at a join; from the code of a function to what it does.
-/
import Derived.Test.YtnnadlpfbfajdaaGreatDoorEngP
namespace Go.Eng
open Go
set_option linter.unusedVariables false
set_option linter.unusedSimpArgs false

def nodupB : List Nat → Bool
  | [] => true
  | x :: l => !l.elem x && nodupB l
theorem nodupB_spec : ∀ {l : List Nat}, nodupB l = true → l.Nodup
  | [], _ => List.nodup_nil
  | x :: l, h => by
    simp only [nodupB, Bool.and_eq_true, Bool.not_eq_true', List.elem_eq_mem, decide_eq_false_iff_not] at h
    exact List.nodup_cons.2 ⟨h.1, nodupB_spec h.2⟩

def rof (l : List (Nat × Nat)) (k : Nat) : Nat := (l.lookup k).getD k
def nof (l : List Nat) (k : Nat) : Bool := l.elem k

/-- The names of what is seen: none twice. -/
def Mem.keysB (m : Mem) (rl : List (Nat × Nat)) (nl : List Nat) : Bool :=
  nodupB (m.own.map Prod.fst ++ m.box.map Prod.fst) && nodupB (((m.own.map Prod.fst ++ m.box.map Prod.fst).filter fun k => !nof nl k).map (rof rl))

def OwnL (st : St) (rl : List (Nat × Nat)) (nl : List Nat) : List (Nat × OwnB) → Prop
  | [] => True
  | p :: l => ((nof nl p.1 = true ∧ p.2.xs = [] ∧ 0 < p.2.sz) ∨ (nof nl p.1 = false ∧ st.own (rof rl p.1) = some p.2)) ∧ OwnL st rl nl l
def BoxL (R : Cell → Cell → Prop) (st : St) (rl : List (Nat × Nat)) (nl : List Nat) : List (Nat × List Cell) → Prop
  | [] => True
  | p :: l => (nof nl p.1 = false ∧ ∃ cs0, st.box (rof rl p.1) = some cs0 ∧ L2 R cs0 p.2) ∧ BoxL R st rl nl l
def AllT (R : Cell → Cell → Prop) (st : St) : List (Nat × TV) → Prop
  | [] => True
  | p :: l => TVSee R (st.t p.1) p.2 ∧ AllT R st l

section
variable {len : Nat → Prop} {st : St} {rl : List (Nat × Nat)} {nl : List Nat} {m : Mem} {R : Cell → Cell → Prop}

theorem OwnL.mem : ∀ {l : List (Nat × OwnB)}, OwnL st rl nl l → ∀ p ∈ l, (nof nl p.1 = true ∧ p.2.xs = [] ∧ 0 < p.2.sz) ∨ (nof nl p.1 = false ∧ st.own (rof rl p.1) = some p.2)
  | [], _, p, hp => by cases hp
  | q :: l, h, p, hp => by
    rcases List.mem_cons.1 hp with rfl | hp
    · exact h.1
    · exact OwnL.mem h.2 p hp
theorem BoxL.mem : ∀ {l : List (Nat × List Cell)}, BoxL R st rl nl l → ∀ p ∈ l, nof nl p.1 = false ∧ ∃ cs0, st.box (rof rl p.1) = some cs0 ∧ L2 R cs0 p.2
  | [], _, p, hp => by cases hp
  | q :: l, h, p, hp => by
    rcases List.mem_cons.1 hp with rfl | hp
    · exact h.1
    · exact BoxL.mem h.2 p hp
theorem AllT.mem : ∀ {l : List (Nat × TV)}, AllT R st l → ∀ p ∈ l, TVSee R (st.t p.1) p.2
  | [], _, p, hp => by cases hp
  | q :: l, h, p, hp => by
    rcases List.mem_cons.1 hp with rfl | hp
    · exact h.1
    · exact AllT.mem h.2 p hp

theorem nodup_map_inj {α β : Type} {f : α → β} : ∀ {l : List α}, (l.map f).Nodup → ∀ x ∈ l, ∀ y ∈ l, f x = f y → x = y
  | [], _, x, hx, _, _, _ => by cases hx
  | a :: l, h, x, hx, y, hy, he => by
    rw [List.map_cons, List.nodup_cons] at h
    rcases List.mem_cons.1 hx with h1 | h1 <;> rcases List.mem_cons.1 hy with h2 | h2
    · rw [h1, h2]
    · exact absurd (List.mem_map.2 ⟨y, h2, by rw [← he, h1]⟩) h.1
    · exact absurd (List.mem_map.2 ⟨x, h1, by rw [he, h2]⟩) h.1
    · exact nodup_map_inj h.2 x h1 y h2 he

theorem live_keys {k : Nat} (h : m.live k) : k ∈ m.own.map Prod.fst ++ m.box.map Prod.fst := by
  rcases h with h | h
  · obtain ⟨e, he⟩ := Option.ne_none_iff_exists'.1 h
    exact List.mem_append_left _ (List.mem_map.2 ⟨_, mem_lookup he, rfl⟩)
  · obtain ⟨e, he⟩ := Option.ne_none_iff_exists'.1 h
    exact List.mem_append_right _ (List.mem_map.2 ⟨_, mem_lookup he, rfl⟩)

theorem keysB_excl (hk : m.keysB rl nl = true) (k : Nat) : m.own.lookup k = none ∨ m.box.lookup k = none := by
  simp only [Mem.keysB, Bool.and_eq_true] at hk
  have h1 := nodupB_spec hk.1
  cases ho : m.own.lookup k with
  | none => exact .inl rfl
  | some e =>
    cases hb : m.box.lookup k with
    | none => exact .inr rfl
    | some cs =>
      exact absurd rfl ((List.nodup_append.1 h1).2.2 k (List.mem_map.2 ⟨_, mem_lookup ho, rfl⟩) k (List.mem_map.2 ⟨_, mem_lookup hb, rfl⟩))

theorem sees_of (hk : m.keysB rl nl = true) (ho : OwnL st rl nl m.own) (hb : BoxL (CellSee len st (rof rl) (nof nl) m) st rl nl m.box) : Sees len st (rof rl) (nof nl) m where
  own k e he := ho.mem (k, e) (mem_lookup he)
  box k cs he := hb.mem (k, cs) (mem_lookup he)
  inj k k' h1 h2 h3 h4 h5 := by
    simp only [Mem.keysB, Bool.and_eq_true] at hk
    exact nodup_map_inj (nodupB_spec hk.2) k (List.mem_filter.2 ⟨live_keys h1, by simp [h3]⟩) k' (List.mem_filter.2 ⟨live_keys h2, by simp [h4]⟩) h5
  excl := keysB_excl hk

/-! ### Cells that are seen as they are -/
theorem see_same {ρ : Nat → Nat} {nils : Nat → Bool} {T A : Cell} (h : T = A.ren ρ) (hn : A.refs.all (fun r => !nils r) = true) : CellSee len st ρ nils m T A :=
  .inr (.inl ⟨h, fun r hr => by simpa using List.all_eq_true.1 hn r hr⟩)
theorem see_d {ρ : Nat → Nat} {nils : Nat → Bool} {T : Cell} {x : D} (h : T = .d x) : CellSee len st ρ nils m T (.d x) := .inr (.inl ⟨h, fun r hr => by cases hr⟩)
theorem see_own {ρ : Nat → Nat} {nils : Nat → Bool} {T : Cell} {id : Nat} {p : Option Nat} {xs : List (List D)} {us : List Nat} (hl : len id) (h : T = .own id p) (he : st.elems (.c (.own id p)) = some (xs, us))
    (hm : (m.own.all fun q => nils q.1 || !(ρ q.1 == id)) = true) : CellSee len st ρ nils m T (.d (.lst xs)) := by
  subst h
  refine .inr (.inr (.inl ⟨id, p, xs, us, hl, rfl, rfl, he, fun k hk hn hρ => ?_⟩))
  obtain ⟨e, he⟩ := Option.ne_none_iff_exists'.1 hk
  have := List.all_eq_true.1 hm _ (mem_lookup he)
  simp [hn, hρ] at this
theorem see_nil {ρ : Nat → Nat} {nils : Nat → Bool} {T : Cell} (h : T = .nil) : CellSee len st ρ nils m T (.d (.lst [])) := .inr (.inr (.inr (.inl ⟨h, rfl⟩)))
theorem see_nilown {ρ : Nat → Nat} {nils : Nat → Bool} {T : Cell} {k : Nat} (h : T = .nil) (hn : nils k = true) (he : (m.own.lookup k).map OwnB.xs = some []) : CellSee len st ρ nils m T (.own k none) := by
  refine .inr (.inr (.inr (.inr (.inl ⟨h, k, rfl, hn, fun e h1 => ?_⟩))))
  rw [h1] at he
  simpa using he
theorem see_like {ρ : Nat → Nat} {nils : Nat → Bool} {T A A0 : Cell} (h : T = A0.ren ρ) (hn : A0.refs.all (fun r => !nils r) = true) (hl : Like A0 A) : CellSee len st ρ nils m T A :=
  .inr (.inr (.inr (.inr (.inr ⟨A0, h, fun r hr => by simpa using List.all_eq_true.1 hn r hr, hl⟩))))

theorem l2_same {ρ : Nat → Nat} {nils : Nat → Bool} : ∀ {cs cs' : List Cell}, cs = cs'.map (Cell.ren ρ) → (cs'.all fun c => c.refs.all fun r => !nils r) = true → L2 (CellSee len st ρ nils m) cs cs'
  | [], [], _, _ => trivial
  | [], _ :: _, h, _ => by cases h
  | _ :: _, [], h, _ => by cases h
  | c :: cs, c' :: cs', h, hn => by
    rw [List.map_cons] at h
    injection h with h1 h2
    rw [List.all_cons, Bool.and_eq_true] at hn
    exact ⟨see_same h1 hn.1, l2_same h2 hn.2⟩
theorem l2_d {ρ : Nat → Nat} {nils : Nat → Bool} {cs : List Cell} {ds : List D} (h : cs = ds.map .d) : L2 (CellSee len st ρ nils m) cs (ds.map .d) := by
  subst h
  refine l2_same ?_ ?_
  · rw [List.map_map]; rfl
  · induction ds with
    | nil => rfl
    | cons x ds ih => rw [List.map_cons, List.all_cons, ih]; rfl

theorem t_same {ρ : Nat → Nat} {nils : Nat → Bool} {T A : TV} (h : T = A.ren ρ) (hn : (A.refs.all fun r => !nils r) = true) : TVSee (CellSee len st ρ nils m) T A := by
  subst h
  have h1 : ∀ y : T1, (y.refs.all fun r => !nils r) = true → T1See (CellSee len st ρ nils m) (y.ren ρ) y := by
    intro y hy
    cases y with
    | one c => exact see_same rfl hy
    | agg cs =>
      refine l2_same rfl ?_
      have hy' : ((cs.flatMap Cell.refs).all fun r => !nils r) = true := hy
      rw [List.all_flatMap] at hy'
      exact hy'
  cases A with
  | v y =>
    cases y with
    | one c => cases c <;> first | exact h1 (.one _) hn | trivial
    | agg cs => exact h1 (.agg cs) hn
  | tup xs =>
    have hn' : ((xs.flatMap T1.refs).all fun r => !nils r) = true := hn
    rw [List.all_flatMap] at hn'
    clear hn
    show L2 (T1See (CellSee len st ρ nils m)) (xs.map (T1.ren ρ)) xs
    induction xs with
    | nil => trivial
    | cons y ys ih =>
      rw [List.all_cons, Bool.and_eq_true] at hn'
      exact ⟨h1 y hn'.1, ih hn'.2⟩
theorem t_one {R : Cell → Cell → Prop} {T : TV} {c c' : Cell} (h : T = .v (.one c)) (hc : R c c') (hu : R c .undef) : TVSee R T (.v (.one c')) := by
  subst h
  cases c' <;> first | exact hc | trivial
theorem t_cell {ρ : Nat → Nat} {nils : Nat → Bool} {T : TV} {c c' : Cell} (h : T = .v (.one c)) (hc : CellSee len st ρ nils m c c') : TVSee (CellSee len st ρ nils m) T (.v (.one c')) := t_one h hc (.inl rfl)
theorem t_agg {ρ : Nat → Nat} {nils : Nat → Bool} {T : TV} {cs cs' : List Cell} (h : T = .v (.agg cs)) (hc : L2 (CellSee len st ρ nils m) cs cs') : TVSee (CellSee len st ρ nils m) T (.v (.agg cs')) := by
  subst h; exact hc
theorem t_tup {ρ : Nat → Nat} {nils : Nat → Bool} {T : TV} {cs cs' : List T1} (h : T = .tup cs) (hc : L2 (T1See (CellSee len st ρ nils m)) cs cs') : TVSee (CellSee len st ρ nils m) T (.tup cs') := by
  subst h; exact hc
end

/-! ### From a state to another -/
def To (A : Nat) (st st' : St) : Prop :=
  ∀ (B : Base) (nt : Nat) (C : Nat → Option Nat) (a : Act) (w : World), (∀ id ∈ B.anc, id < A) → Inv B (From st.next) nt C st a w → ∃ C', Inv B (From st'.next) nt C' st' a w

section
variable {P : Program} {A nt : Nat} {st st' st'' : St} {Q : AEx → St → Prop} {c : Code}
theorem To.refl (A : Nat) (st : St) : To A st st := fun B nt C a w _ h => ⟨C, h⟩
theorem To.trans (h : To A st st') (h' : To A st' st'') : To A st st'' := fun B nt C a w hA hi => let ⟨C', hi'⟩ := h B nt C a w hA hi; h' B nt C' a w hA hi'
theorem awp_to (h : To A st st') (hc : Awp P A nt c Q st') : Awp P A nt c Q st := fun B C a w hA hi => let ⟨C', hi'⟩ := h B nt C a w hA hi; hc B C' a w hA hi'
theorem awp_to_post (h : Awp P A nt c (fun ae st => ∃ st', To A st st' ∧ Q ae st') st) : Awp P A nt c Q st := fun B C a w hA hi =>
  wp_mono (h B C a w hA hi) fun e a w ⟨ae, st, C, h1, ⟨st', h2, h3⟩, h4⟩ => let ⟨C', hi'⟩ := h2 B nt C a w hA h4; ⟨ae, st', C', h1, h3, hi'⟩

/-- All that is named lies below nx; the variables that were handed over keep their names. -/
def lows (A : Nat) (rl : List (Nat × Nat)) (nl : List Nat) (m : Mem) (ts : List (Nat × TV)) (nx : Nat) : Bool :=
  Nat.ble A nx && (rl.all fun p => Nat.ble A p.1) && (nl.all fun k => Nat.ble A k) && (m.own.all fun p => Nat.blt p.1 nx) && (m.box.all fun p => Nat.blt p.1 nx) && (ts.all fun p => p.2.refs.all fun r => Nat.blt r nx)
def lowc (m : Mem) (nx : Nat) : Prop := ∀ p ∈ m.box, ∀ c ∈ p.2, ∀ r ∈ c.refs, r < nx
def lowcB (m : Mem) (nx : Nat) : Bool := m.box.all fun p => p.2.all fun c => c.refs.all fun r => Nat.blt r nx
theorem lowc_of {m : Mem} {nx : Nat} (h : lowcB m nx = true) : lowc m nx := by
  intro p hp c hc r hr
  simp only [lowcB, List.all_eq_true] at h
  have := h p hp c hc r hr
  simpa [Nat.blt_eq] using this

theorem rof_low {rl : List (Nat × Nat)} {k : Nat} (h : (rl.all fun p => Nat.ble A p.1) = true) (hk : k < A) : rof rl k = k := by
  unfold rof
  cases hl : rl.lookup k with
  | none => rfl
  | some x =>
    have := List.all_eq_true.1 h _ (mem_lookup hl)
    rw [Nat.ble_eq] at this
    exact absurd this (by show ¬ A ≤ k; omega)
theorem nof_low {nl : List Nat} {k : Nat} (h : (nl.all fun k => Nat.ble A k) = true) (hk : k < A) : nof nl k = false := by
  unfold nof
  rw [List.elem_eq_mem, decide_eq_false_iff_not]
  intro hm
  have := List.all_eq_true.1 h _ hm
  rw [Nat.ble_eq] at this
  omega

/-- What is seen of a state, as a state. -/
theorem see_inv {rl : List (Nat × Nat)} {nl : List Nat} {m : Mem} {B : Base} {N : Nat → Prop} {C : Nat → Option Nat} {a : Act} {w : World} (hA : ∀ id ∈ B.anc, id < A) (h : Inv B N nt C st a w)
    (hr : (rl.all fun p => Nat.ble A p.1) = true) (hn : (nl.all fun k => Nat.ble A k) = true) (hs : Sees (fun _ => True) st (rof rl) (nof nl) m) (t : Nat → TV) (nx : Nat) : Mm B (seeC C (rof rl) (nof nl)) (m.st t nx) w := by
  refine hs.mm h.toMm (fun b hb => hb.2.1) (fun id b _ hl hb => h.nb id b hl hb) ?_ h.badlt h.fr ?_ ?_
  · intro k b hk hb
    unfold seeC at hb
    split at hb
    · cases hb
    · rename_i hnk; exact h.nb _ b (hs.live hk (by simpa using hnk)) hb
  · intro id hid
    have := hA id hid
    unfold seeC
    rw [nof_low hn this, rof_low hr this]
    exact h.anc id hid
  · intro k b hk hb
    unfold seeC at hb
    split at hb
    · cases hb
    · rename_i hnk; exact h.wr _ b (hs.live hk (by simpa using hnk)) hb

theorem to_see (rl : List (Nat × Nat)) (nl : List Nat) (m : Mem) (ts : List (Nat × TV)) (nx : Nat) (hk : m.keysB rl nl = true) (hw : lows A rl nl m ts nx = true) (hc : lowc m nx) (ho : OwnL st rl nl m.own)
    (hb : BoxL (CellSee (fun _ => True) st (rof rl) (nof nl) m) st rl nl m.box) (ht : AllT (CellSee (fun _ => True) st (rof rl) (nof nl) m) st ts) : To A st (m.st (tl ts) nx) := by
  intro B nt C a w hA h
  simp only [lows, Bool.and_eq_true] at hw
  obtain ⟨⟨⟨⟨⟨w1, w2⟩, w3⟩, w4⟩, w5⟩, w6⟩ := hw
  have hs := sees_of hk ho hb
  refine ⟨seeC C (rof rl) (nof nl), { toMm := see_inv hA h w2 w3 hs (tl ts) nx, res := ?_, ancN := fun id hid hn => ?_, defers := h.defers, size := h.size, tmp := fun s => ?_ }⟩
  · refine ⟨fun id hid => ?_, fun id hid => ?_, fun id hid s hr => ?_, fun id hid j cs c hj hc' hr => ?_⟩
    · cases he : m.own.lookup id with
      | none => exact he
      | some e =>
        have := List.all_eq_true.1 w4 _ (mem_lookup he)
        simp [Nat.blt_eq] at this
        have h2 : nx ≤ id := hid
        omega
    · cases he : m.box.lookup id with
      | none => exact he
      | some e =>
        have := List.all_eq_true.1 w5 _ (mem_lookup he)
        simp [Nat.blt_eq] at this
        have h2 : nx ≤ id := hid
        omega
    · have hr' : id ∈ ((ts.lookup s).getD .undef).refs := hr
      cases he : ts.lookup s with
      | none => rw [he] at hr'; cases hr'
      | some e =>
        rw [he] at hr'
        have := List.all_eq_true.1 (List.all_eq_true.1 w6 _ (mem_lookup he)) _ hr'
        simp [Nat.blt_eq] at this
        have h2 : nx ≤ id := hid
        omega
    · have h1 := hc (j, cs) (mem_lookup hj) c hc' id hr
      have h2 : nx ≤ id := hid
      omega
  · have h1 := hA id hid
    rw [Nat.ble_eq] at w1
    have h2 : nx ≤ id := hn
    omega
  · show TRep _ ((ts.lookup s).getD .undef) _
    cases he : ts.lookup s with
    | none => trivial
    | some e =>
      exact (ht.mem _ (mem_lookup he)).rep (fun c c' u hc hr => hs.cell h.toMm (fun b hb => hb.2.1) (fun id b _ hl hb => h.nb id b hl hb) hc hr) (fun u => trivial) (h.tmp s)
end

/-! ### Results -/
def resT (Γ : Types) (st : St) : List ResultVar → Option (List T1)
  | [] => some []
  | .tmp t :: l => match st.t t, resT Γ st l with
    | .v x, some xs => some (x :: xs)
    | _, _ => none
  | .cell s t :: l => match aeff Γ 0 (.load t (.tmp s)) st, resT Γ st l with
    | some ⟨.v x, _, _, _⟩, some xs => some (x :: xs)
    | _, _ => none
def resV : List T1 → TV
  | [x] => .v x
  | xs => .tup xs

section
variable {P : Program} {Γ : Types} {B : Base} {N : Nat → Prop} {nt : Nat} {C : Nat → Option Nat} {st : St} {a : Act} {w : World}

theorem load_core {t : TypeId} {ti : TI} (hti : TIok P t ti = true) {p : Addr} {cs : List Cell} {tv : TV} {R : Cell → Value → Prop}
    (hm : mkT ti.agg cs = some tv) (hl : cs.length = ti.sz) (hc : ∀ (j : Nat) (c : Cell), cs[j]? = some c → ∃ u, w.cell? (p.add j) = some u ∧ R c u) (hR : R = CRep w (okOf B st C w) C st.own) :
    ∃ v, (loadVar t p).run P w = .ok v w ∧ TRep R tv v := by
  have key : ∀ n, n ≤ cs.length → ∃ vs : List Value, vs.length = n ∧ ∀ (j : Nat) (c : Cell), j < n → cs[j]? = some c → ∃ u, vs[j]? = some u ∧ w.cell? (p.add j) = some u ∧ R c u := by
    intro n
    induction n with
    | zero => exact fun _ => ⟨[], rfl, fun j c hj => by omega⟩
    | succ n ih =>
      intro hn
      obtain ⟨vs, h1, h2⟩ := ih (by omega)
      obtain ⟨u, hu1, hu2⟩ := hc n cs[n] (List.getElem?_eq_getElem (by omega))
      refine ⟨vs ++ [u], by simp [h1], fun j c hj hjc => ?_⟩
      by_cases hjn : j = n
      · subst hjn
        rw [List.getElem?_eq_getElem (by omega)] at hjc
        injection hjc with hjc; subst hjc
        exact ⟨u, by rw [List.getElem?_append_right (by omega)]; simp [h1], hu1, hu2⟩
      · obtain ⟨u', hu', h3⟩ := h2 j c (by omega) hjc
        exact ⟨u', by rw [List.getElem?_append_left (by omega)]; exact hu', h3⟩
  obtain ⟨vs, hvl, hv0⟩ := key cs.length (Nat.le_refl _)
  have hvc : ∀ (j : Nat) (c : Cell), cs[j]? = some c → ∃ u, vs[j]? = some u ∧ w.cell? (p.add j) = some u ∧ R c u := fun j c hj => hv0 j c (List.getElem?_eq_some_iff.1 hj).1 hj
  have hcell : ∀ j v, vs[j]? = some v → w.cell? (p.add j) = some v := fun j v hj => by
    have hjl : j < cs.length := by rw [← hvl]; exact (List.getElem?_eq_some_iff.1 hj).1
    obtain ⟨u, hu1, hu2, _⟩ := hvc j cs[j] (List.getElem?_eq_getElem hjl)
    rw [hj] at hu1; injection hu1 with hu1; subst hu1; exact hu2
  obtain ⟨r1, r2⟩ := run_loadVar (P := P) (w := w) hti p vs (by omega) hcell
  subst hR
  rcases mkT_sound hm hvl (fun j c hj => by obtain ⟨u, h1, _, h2⟩ := hvc j c hj; exact ⟨u, h1, h2⟩) with ⟨ha, _, ht⟩ | ⟨ha, c, u, hcs, hvs, rfl, hcu⟩
  · exact ⟨_, r1 ha, ht⟩
  · exact ⟨u, r2 ha u hvs, hcu⟩

theorem load_var (hΓ : TypesOk P Γ) (h : Inv B N nt C st a w) {t : TypeId} {s : Tmp} {e : Eff} (he : aeff Γ 0 (.load t (.tmp s)) st = some e) :
    ∃ p v, a.tmps.getD s undef = .pointer (some p) ∧ (loadVar t p).run P w = .ok v w ∧ TRep (CRep w (okOf B st C w) C st.own) e.v v := by
  simp only [aeff] at he
  split at he
  · rename_i ti id off ht h1
    split at he
    case h_2 => cases he
    rename_i cs hbx
    split at he
    case isFalse => cases he
    rename_i hlen
    simp only [Option.map_eq_some_iff] at he
    obtain ⟨tv, hm, rfl⟩ := he
    obtain ⟨b, hb, hv⟩ := (ev_sound h h1).1
    obtain ⟨b', arr, et, hb', hh, hsz, _, hc⟩ := (h.box id cs hbx).cells hlen.2
    have hlen := hlen.1
    rw [hb] at hb'; cases hb'
    obtain ⟨v, h2, h3⟩ := load_core (P := P) (hΓ.ok t ti ht) (p := ⟨b, off, none⟩) (w := w) (B := B) (st := st) (C := C) hm (by simp; omega) (R := CRep w (okOf B st C w) C st.own) (fun j c hj => by
      rw [slice_list] at hj
      split at hj
      · obtain ⟨u, hu, hr⟩ := hc _ c hj
        exact ⟨u, by rw [add_off]; simp [World.cell?, hh, hu], hr⟩
      · cases hj) rfl
    exact ⟨_, v, hv, h2, h3⟩
  · rename_i ti id i off ht h1
    split at he
    case h_2 => cases he
    rename_i oe ho
    split at he
    case h_2 => cases he
    rename_i ds hds
    split at he
    case isFalse => cases he
    rename_i hlen
    simp only [Option.map_eq_some_iff] at he
    obtain ⟨tv, hm, rfl⟩ := he
    obtain ⟨b, hb, hv⟩ := (ev_sound h h1).1 oe ho
    obtain ⟨_, arr, hh, _, hls, hc⟩ := own_block h ho hb
    obtain ⟨v, h2, h3⟩ := load_core (P := P) (hΓ.ok t ti ht) (p := ⟨b, i * oe.sz + off, none⟩) (w := w) (B := B) (st := st) (C := C) hm (by simp; omega) (R := CRep w (okOf B st C w) C st.own) (fun j c hj => by
      rw [List.getElem?_map, Option.map_eq_some_iff] at hj
      obtain ⟨x, hj, rfl⟩ := hj
      rw [slice_list] at hj
      split at hj
      · obtain ⟨u, hu, hr⟩ := hc i _ ds x hds hj
        exact ⟨u, by rw [add_off, Nat.add_assoc]; simp [World.cell?, hh, hu], hr⟩
      · cases hj) rfl
    exact ⟨_, v, hv, h2, h3⟩
  · rename_i ti ds ht h1
    split at he
    case isFalse => cases he
    rename_i hlen
    simp only [Option.map_eq_some_iff] at he
    obtain ⟨tv, hm, rfl⟩ := he
    obtain ⟨p, hv, hok, hc⟩ := (ev_sound h h1).1
    obtain ⟨v, h2, h3⟩ := load_core (P := P) (hΓ.ok t ti ht) (p := p) (w := w) (B := B) (st := st) (C := C) hm (by simp; omega) (R := CRep w (okOf B st C w) C st.own) (fun j c hj => by
      rw [List.getElem?_map, Option.map_eq_some_iff] at hj
      obtain ⟨x, hj, rfl⟩ := hj
      rw [List.getElem?_take] at hj
      split at hj
      · exact hc j x hj
      · cases hj) rfl
    exact ⟨p, v, hv, h2, h3⟩
  · cases he

theorem res_sound (hΓ : TypesOk P Γ) (h : Inv B N nt C st a w) {fn : Func} {xs : List T1} (hx : resT Γ st fn.results.toList = some xs) :
    ∃ v, (results fn a.tmps).run P w = .ok v w ∧ TRep (CRep w (okOf B st C w) C st.own) (resV xs) v := by
  have key : ∀ (l : List ResultVar) (xs : List T1), resT Γ st l = some xs → ∃ vs : List Value,
      (l.mapM (m := Sem) fun | .tmp t => pure (a.tmps.getD t undef) | .cell b t => do loadVar t (← asAddr (a.tmps.getD b undef))).run P w = .ok vs w ∧ vs.length = xs.length ∧
      ∀ (j : Nat) (x : T1), xs[j]? = some x → ∃ u, vs[j]? = some u ∧ T1Rep (CRep w (okOf B st C w) C st.own) x u := by
    intro l
    induction l with
    | nil => intro xs h1; cases h1; exact ⟨[], by simp, rfl, fun j x hj => by simp at hj⟩
    | cons q l ih =>
      intro xs h1
      have step : ∀ (x : T1) (v : Value), (∀ ys, resT Γ st l = some ys → xs = x :: ys → (match q with | .tmp t => pure (a.tmps.getD t undef) | .cell b t => do loadVar t (← asAddr (a.tmps.getD b undef)) : Sem Value).run P w = .ok v w →
          T1Rep (CRep w (okOf B st C w) C st.own) x v → ∃ vs : List Value,
          ((q :: l).mapM (m := Sem) fun | .tmp t => pure (a.tmps.getD t undef) | .cell b t => do loadVar t (← asAddr (a.tmps.getD b undef))).run P w = .ok vs w ∧ vs.length = xs.length ∧
          ∀ (j : Nat) (x : T1), xs[j]? = some x → ∃ u, vs[j]? = some u ∧ T1Rep (CRep w (okOf B st C w) C st.own) x u) := by
        rintro x v ys hys rfl hv hxv
        obtain ⟨vs, h2, h3, h4⟩ := ih ys hys
        refine ⟨v :: vs, ?_, by simp [h3], fun j y hj => ?_⟩
        · rw [List.mapM_cons, Sem.run_bind]
          cases q <;> simp_all
        · cases j with
          | zero => simp at hj; subst hj; exact ⟨v, rfl, hxv⟩
          | succ j => simpa using h4 j y (by simpa using hj)
      cases q with
      | tmp t =>
        simp only [resT] at h1
        split at h1
        · rename_i x ys hx hys
          cases h1
          have := h.tmp t
          rw [hx] at this
          exact step x _ ys hys rfl (by simp) this
        · cases h1
      | cell s t =>
        simp only [resT] at h1
        split at h1
        · rename_i x _ _ _ ys hx hys
          cases h1
          obtain ⟨p, v, g1, g2, g3⟩ := load_var hΓ h hx
          exact step x v ys hys rfl (by simp only [g1]; simp [asAddr, g2]) g3
        · cases h1
  obtain ⟨vs, h1, h2, h3⟩ := key _ xs hx
  have hrun : (results fn a.tmps).run P w = .ok (if h : vs.toArray.size = 1 then vs.toArray[0] else .tuple vs.toArray) w := by
    unfold results
    rw [Array.mapM_eq_mapM_toList, Sem.run_bind]
    rw [show ∀ (x : Sem (List Value)), (List.toArray <$> x) = x >>= fun l => pure l.toArray from fun x => by rw [map_eq_pure_bind]]
    rw [Sem.run_bind]
    generalize hg : Sem.run P (List.mapM _ fn.results.toList) w = z
    have hz : z = .ok vs w := hg.symm.trans h1
    rw [hz]
    rfl
  refine ⟨_, hrun, ?_⟩
  match xs, vs, h2, h3 with
  | [x], [v], _, h3 =>
    obtain ⟨u, hu, hr⟩ := h3 0 x rfl
    have : v = u := by simpa using hu
    subst this
    exact hr
  | [], [], _, _ => exact ⟨#[], rfl, rfl, fun j x hj => by simp at hj⟩
  | x :: y :: xs, v :: v' :: vs, h2, h3 =>
    refine ⟨⟨v :: v' :: vs⟩, ?_, by simpa using h2, fun j x hj => by simpa using h3 j x hj⟩
    simp

/-- The end of a function. -/
def Fin (Γ : Types) (A : Nat) (rs : List ResultVar) (R : TV → Mem → Prop) (st : St) : Prop :=
  ∃ xs rl nl m' tv, resT Γ st rs = some xs ∧ (rl.all fun p => Nat.ble A p.1) = true ∧ (nl.all fun k => Nat.ble A k) = true ∧ Sees (fun _ => True) st (rof rl) (nof nl) m' ∧
    TVSee (CellSee (fun _ => True) st (rof rl) (nof nl) m') (resV xs) tv ∧ R tv m'

def FinQ (Γ : Types) (A : Nat) (rs : List ResultVar) (R : TV → Mem → Prop) : AEx → St → Prop
  | .exit _, _ => False
  | _, st => Fin Γ A rs R st

theorem holds_of_awp (hΓ : TypesOk P Γ) {f : FuncId} {fn : Func} {c : Code} {args : List TV} {m : Mem} {R : TV → Mem → Prop} {A nx : Nat} (hf : P.funcs[f]? = some fn) (hn : (fn.name == "runtime.NumGoroutine") = false)
    (hb : fn.body = some c) (hnt : Nat.ble args.length fn.ntmps = true) (hA : ((m.box.all fun p => Nat.blt p.1 A) && m.own.all fun p => Nat.blt p.1 A) = true) (hlow : lows A [] [] m (args.map fun x => (0, x)) nx = true) (hlc : lowc m nx)
    (h : Awp P A fn.ntmps c (FinQ Γ A fn.results.toList R) (m.st (fun s => args.getD s .undef) nx)) : Holds P f args m R := by
  refine ⟨⟨fn, c, hf, hn, hb⟩, fun C w bad vs hmm hvs hrep => calls_of_wp hf hb ?_⟩
  rw [Nat.ble_eq] at hnt
  simp only [lows, Bool.and_eq_true] at hlow
  obtain ⟨⟨⟨⟨⟨w1, _⟩, _⟩, w4⟩, w5⟩, w6⟩ := hlow
  have hanc : ∀ id ∈ (m.base w C bad).anc, id < A := fun id hid => by
    rw [Bool.and_eq_true] at hA
    rcases List.mem_append.1 (show id ∈ m.box.map Prod.fst ++ m.own.map Prod.fst from hid) with hid | hid
    · obtain ⟨p, hp, rfl⟩ := List.mem_map.1 hid
      have := List.all_eq_true.1 hA.1 p hp
      simpa [Nat.blt_eq] using this
    · obtain ⟨p, hp, rfl⟩ := List.mem_map.1 hid
      have := List.all_eq_true.1 hA.2 p hp
      simpa [Nat.blt_eq] using this
  have hinv : Inv (m.base w C bad) (From nx) fn.ntmps C (m.st (fun s => args.getD s .undef) nx) ⟨vs ++ Array.replicate (fn.ntmps - vs.size) undef, []⟩ w := by
    refine { toMm := hmm.t _ _, res := ?_, ancN := fun id hid hn => ?_, defers := rfl, size := by simp; omega, tmp := fun s => ?_ }
    · refine ⟨fun id hid => ?_, fun id hid => ?_, fun id hid s hr => ?_, fun id hid j cs c hj hc' hr => ?_⟩
      · cases he : m.own.lookup id with
        | none => exact he
        | some e =>
          have := List.all_eq_true.1 w4 _ (mem_lookup he)
          simp [Nat.blt_eq] at this
          have h2 : nx ≤ id := hid
          omega
      · cases he : m.box.lookup id with
        | none => exact he
        | some e =>
          have := List.all_eq_true.1 w5 _ (mem_lookup he)
          simp [Nat.blt_eq] at this
          have h2 : nx ≤ id := hid
          omega
      · have hr' : id ∈ (args.getD s .undef).refs := hr
        rw [List.getD_eq_getElem?_getD] at hr'
        cases he : args[s]? with
        | none => rw [he] at hr'; cases hr'
        | some e =>
          rw [he] at hr'
          have := List.all_eq_true.1 (List.all_eq_true.1 w6 (0, e) (List.mem_map.2 ⟨e, List.mem_of_getElem? he, rfl⟩)) _ hr'
          simp [Nat.blt_eq] at this
          have h2 : nx ≤ id := hid
          omega
      · have h1 := hlc (j, cs) (mem_lookup hj) c hc' id hr
        have h2 : nx ≤ id := hid
        omega
    · have h1 := hanc id hid
      rw [Nat.ble_eq] at w1
      have h2 : nx ≤ id := hn
      omega
    · show TRep _ (args.getD s .undef) _
      rw [List.getD_eq_getElem?_getD]
      cases he : args[s]? with
      | none => trivial
      | some e =>
        obtain ⟨v, hv, hr⟩ := hrep s e he
        have hlt : s < vs.size := (Array.getElem?_eq_some_iff.1 hv).1
        have : (vs ++ Array.replicate (fn.ntmps - vs.size) undef).getD s undef = v := by
          rw [Array.getD_eq_getD_getElem?, Array.getElem?_append_left hlt, hv]; rfl
        rw [this]
        exact hr
  refine wp_mono (h _ C _ w hanc hinv) ?_
  rintro e a' w' ⟨ae, st, C', rfl, hq, hi⟩
  have fin : Fin Γ A fn.results.toList R st → a'.defers = [] ∧ ∃ v, (results fn a'.tmps).run P w' = .ok v w' ∧
      ∃ v' tv m' C', Ending.returned v = .returned v' ∧ R tv m' ∧ Mm (m.base w C bad) C' m'.s w' ∧ TRep (m'.rep (m.base w C bad) C' w') tv v' := by
    rintro ⟨xs, rl, nl, m', tv, h1, h2, h3, h4, h5, h6⟩
    obtain ⟨v, hv, hr⟩ := res_sound hΓ hi h1
    refine ⟨hi.defers, v, hv, v, tv, m', seeC C' (rof rl) (nof nl), rfl, h6, see_inv hanc hi h2 h3 h4 _ _, ?_⟩
    exact h5.rep (fun c c' u hc hr => h4.cell hi.toMm (fun b hb => hb.2.1) (fun id b _ hl hb => hi.nb id b hl hb) hc hr) (fun u => trivial) hr
  cases ae with
  | exit id => exact hq.elim
  | normal => exact fin hq
  | ret => exact fin hq
end
end Go.Eng
