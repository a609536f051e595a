/-
Rules in which the state is computed, not printed.
-/
import Derived.Test.YtnnadlpfbfajdaaGreatDoorEngV
import Derived.KernelRfl
namespace Go.Eng
open Go
set_option linter.unusedVariables false
set_option linter.unusedSimpArgs false

class TOk (P : Program) (Γ : outParam Types) : Prop where
  ok : TypesOk P Γ
/-- Slices that are still there: told one by one. -/
def PinL (m : Mem) : List (Nat × OwnB) → Prop
  | [] => True
  | p :: l => (match m.own.lookup p.1 with
    | none => True
    | some e => e.et = p.2.et ∧ e.sz = p.2.sz ∧ e.xs.length = p.2.xs.length) ∧ PinL m l
theorem PinL.get {m : Mem} : ∀ {l : List (Nat × OwnB)}, PinL m l → ∀ {k : Nat} {e e' : OwnB}, m.own.lookup k = some e → l.lookup k = some e' → e.et = e'.et ∧ e.sz = e'.sz ∧ e.xs.length = e'.xs.length
  | [], _, _, _, _, _, h => by cases h
  | p :: l, hp, k, e, e', he, hl => by
    rw [List.lookup_cons] at hl
    split at hl
    · rename_i hk
      have : k = p.1 := by simpa using hk
      injection hl with hl
      subst hl this
      have h1 := hp.1
      rw [he] at h1
      exact h1
    · exact hp.2.get he hl
theorem pin1 {α : Type} {f : α → List D} {l l' : List α} (h : (l'.length == l.length) = true) : (l.map f).length = (l'.map f).length := by
  rw [List.length_map, List.length_map]; exact (by simpa using h : l'.length = l.length).symm
theorem pins_of {m m' : Mem} {nl : List Nat} (h : PinL m m'.own) (hn : (m'.own.all fun p => !((m.own.lookup p.1).isSome && nof nl p.1)) = true) : Pins m m' (nof nl) := by
  intro k e e' he he'
  refine ⟨?_, h.get he he'⟩
  have := List.all_eq_true.1 hn _ (mem_lookup he')
  simpa [he] using this
theorem pins_no {m m' : Mem} {nl : List Nat} (h : (m'.own.all fun p => (m.own.lookup p.1).isNone) = true) : Pins m m' (nof nl) := by
  intro k e e' he he'
  have := List.all_eq_true.1 h _ (mem_lookup he')
  simp [he] at this
class Mixed (P : Program) : Prop where
  ok : P.follows .mixedOrders = true

/-! ### Taking a plain function's answer apart -/
theorem bE {α β : Type} {x : Option α} {f : α → Option β} {r : β} {G : Prop} (hF : x.bind f = some r) (k : ∀ y, x = some y → f y = some r → G) : G := let ⟨y, h1, h2⟩ := bind_some hF; k y h1 h2
theorem gE {α : Type} {p : Bool} {x : Option α} {r : α} {G : Prop} (hF : gd p x = some r) (k : p = true → x = some r → G) : G := let ⟨h1, h2⟩ := gd_some hF; k h1 h2
theorem cE {α : Type} {b : Bool} {x y r : α} {G : Prop} (hF : cond b x y = r) (k1 : b = true → x = r → G) (k2 : b = false → y = r → G) : G := (cond_or hF).elim (fun h => k1 h.1 h.2) fun h => k2 h.1 h.2
theorem nE {α : Type} {r : α} {G : Prop} (hF : (none : Option α) = some r) : G := nomatch hF

/-! ### What is seen, computed -/
def lenP : Option (List Nat) → Nat → Prop
  | none => fun _ => True
  | some l => (· ∈ l)

def fixC (st : St) (ρ : Nat → Nat) (nils : Nat → Bool) (T A : Cell) : Cell :=
  match A with
  | .undef => .undef
  | .d (.lst _) => match T with
    | .own id p => match st.elems (.c (.own id p)) with
      | some (xs, _) => .d (.lst xs)
      | none => .undef
    | .nil => .d (.lst [])
    | T => T
  | .own k none => match T with
    | .nil => bif nils k then .own (ρ k) none else .nil
    | T => T
  | _ => T
def okC (lens : Option (List Nat)) (ρ : Nat → Nat) (nils : Nat → Bool) (m : Mem) (T A : Cell) : Bool :=
  match A with
  | .undef => true
  | .d (.lst _) => match T with
    | .own id _ => (match lens with
      | none => true
      | some l => l.elem id) && m.own.all fun q => nils q.1 || !(ρ q.1 == id)
    | _ => true
  | .own k none => match T with
    | .nil => nils k && match m.own.lookup k with
      | some e => e.xs.isEmpty
      | none => false
    | _ => !nils k
  | A => A.refs.all fun r => !nils r

section
variable {st : St} {ρ : Nat → Nat} {nils : Nat → Bool} {m : Mem} {lens : Option (List Nat)}
theorem fixC_sound {T A : Cell} (h : okC lens ρ nils m T A = true) (he : fixC st ρ nils T A = A.ren ρ) : CellSee (lenP lens) st ρ nils m T A := by
  unfold fixC at he
  unfold okC at h
  cases A with
  | undef => exact .inl rfl
  | d x =>
    cases x with
    | lst xs =>
      cases T with
      | own id p =>
        simp only [Bool.and_eq_true] at he h
        split at he
        · rename_i xs' us hel
          have e : xs' = xs := by
            have : Cell.d (.lst xs') = .d (.lst xs) := he
            injection this with this; injection this
          subst e
          refine see_own (us := us) ?_ rfl hel h.2
          cases lens with
          | none => trivial
          | some l => simpa [lenP] using h.1
        · cases he
      | nil =>
        have e : ([] : List (List D)) = xs := by
          have : Cell.d (.lst []) = .d (.lst xs) := he
          injection this with this; injection this
        subst e
        exact see_nil rfl
      | _ => exact see_d he
    | _ => exact see_d he
  | own k p =>
    cases p with
    | none =>
      cases T with
      | nil =>
        simp only [Bool.and_eq_true] at h
        refine see_nilown rfl h.1 ?_
        have h2 := h.2
        split at h2
        · rename_i e he'; rw [he']; simpa using h2
        · cases h2
      | _ => exact see_same he (by simpa [Cell.refs] using h)
    | some q => exact see_same he (by simpa using h)
  | _ => exact see_same he (by simpa using h)

def fixL (st : St) (ρ : Nat → Nat) (nils : Nat → Bool) : List Cell → List Cell → List Cell
  | t :: ts, a :: as => fixC st ρ nils t a :: fixL st ρ nils ts as
  | _, _ => []
def okL (lens : Option (List Nat)) (ρ : Nat → Nat) (nils : Nat → Bool) (m : Mem) : List Cell → List Cell → Bool
  | t :: ts, a :: as => okC lens ρ nils m t a && okL lens ρ nils m ts as
  | [], [] => true
  | _, _ => false
theorem fixL_sound : ∀ {ts as : List Cell}, okL lens ρ nils m ts as = true → fixL st ρ nils ts as = as.map (Cell.ren ρ) → L2 (CellSee (lenP lens) st ρ nils m) ts as
  | [], [], _, _ => trivial
  | [], _ :: _, h, _ => by cases h
  | _ :: _, [], h, _ => by cases h
  | t :: ts, a :: as, h, he => by
    simp only [okL, Bool.and_eq_true] at h
    simp only [fixL, List.map_cons] at he
    injection he with h1 h2
    exact ⟨fixC_sound h.1 h1, fixL_sound h.2 h2⟩

def fixT (st : St) (ρ : Nat → Nat) (nils : Nat → Bool) : T1 → T1 → T1
  | .one t, .one a => .one (fixC st ρ nils t a)
  | .agg ts, .agg as => .agg (fixL st ρ nils ts as)
  | t, _ => t
def okT (lens : Option (List Nat)) (ρ : Nat → Nat) (nils : Nat → Bool) (m : Mem) : T1 → T1 → Bool
  | .one t, .one a => okC lens ρ nils m t a
  | .agg ts, .agg as => okL lens ρ nils m ts as
  | _, _ => false
theorem fixT_sound {T A : T1} (h : okT lens ρ nils m T A = true) (he : fixT st ρ nils T A = A.ren ρ) : T1See (CellSee (lenP lens) st ρ nils m) T A := by
  cases T <;> cases A
  · exact fixC_sound h (by injection he)
  · cases h
  · cases h
  · exact fixL_sound h (by injection he)
def fixTs (st : St) (ρ : Nat → Nat) (nils : Nat → Bool) : List T1 → List T1 → List T1
  | t :: ts, a :: as => fixT st ρ nils t a :: fixTs st ρ nils ts as
  | _, _ => []
def okTs (lens : Option (List Nat)) (ρ : Nat → Nat) (nils : Nat → Bool) (m : Mem) : List T1 → List T1 → Bool
  | t :: ts, a :: as => okT lens ρ nils m t a && okTs lens ρ nils m ts as
  | [], [] => true
  | _, _ => false
theorem fixTs_sound : ∀ {ts as : List T1}, okTs lens ρ nils m ts as = true → fixTs st ρ nils ts as = as.map (T1.ren ρ) → L2 (T1See (CellSee (lenP lens) st ρ nils m)) ts as
  | [], [], _, _ => trivial
  | [], _ :: _, h, _ => by cases h
  | _ :: _, [], h, _ => by cases h
  | t :: ts, a :: as, h, he => by
    simp only [okTs, Bool.and_eq_true] at h
    simp only [fixTs, List.map_cons] at he
    injection he with h1 h2
    exact ⟨fixT_sound h.1 h1, fixTs_sound h.2 h2⟩

def fixV (st : St) (ρ : Nat → Nat) (nils : Nat → Bool) (T A : TV) : TV :=
  match A with
  | .v (.one .undef) => .v (.one .undef)
  | .v y => match T with
    | .v x => .v (fixT st ρ nils x y)
    | T => T
  | .tup ys => match T with
    | .tup xs => .tup (fixTs st ρ nils xs ys)
    | T => T
def okV (lens : Option (List Nat)) (ρ : Nat → Nat) (nils : Nat → Bool) (m : Mem) (T A : TV) : Bool :=
  match A with
  | .v (.one .undef) => true
  | .v y => match T with
    | .v x => okT lens ρ nils m x y
    | _ => false
  | .tup ys => match T with
    | .tup xs => okTs lens ρ nils m xs ys
    | _ => false
theorem fixV_sound {T A : TV} (h : okV lens ρ nils m T A = true) (he : fixV st ρ nils T A = A.ren ρ) : TVSee (CellSee (lenP lens) st ρ nils m) T A := by
  cases A with
  | v y =>
    by_cases hu : y = .one .undef
    · subst hu; exact trivial
    · cases T with
      | v x =>
        have h' : okT lens ρ nils m x y = true := by
          cases y with
          | one c => cases c <;> first | exact absurd rfl hu | exact h
          | agg cs => exact h
        have he' : fixT st ρ nils x y = y.ren ρ := by
          cases y with
          | one c => cases c <;> first | exact absurd rfl hu | (injection he)
          | agg cs => injection he
        have := fixT_sound (st := st) h' he'
        cases y with
        | one c => cases c <;> first | exact absurd rfl hu | exact this
        | agg cs => exact this
      | tup xs =>
        cases y with
        | one c => cases c <;> first | exact absurd rfl hu | cases h
        | agg cs => cases h
  | tup ys =>
    cases T with
    | v x => cases h
    | tup xs => exact fixTs_sound h (by injection he)
def fixVs (st : St) (ρ : Nat → Nat) (nils : Nat → Bool) : List TV → List TV → List TV
  | t :: ts, a :: as => fixV st ρ nils t a :: fixVs st ρ nils ts as
  | _, _ => []
def okVs (lens : Option (List Nat)) (ρ : Nat → Nat) (nils : Nat → Bool) (m : Mem) : List TV → List TV → Bool
  | t :: ts, a :: as => okV lens ρ nils m t a && okVs lens ρ nils m ts as
  | [], [] => true
  | _, _ => false
theorem fixVs_sound : ∀ {ts as : List TV}, okVs lens ρ nils m ts as = true → fixVs st ρ nils ts as = as.map (TV.ren ρ) → L2 (TVSee (CellSee (lenP lens) st ρ nils m)) ts as
  | [], [], _, _ => trivial
  | [], _ :: _, h, _ => by cases h
  | _ :: _, [], h, _ => by cases h
  | t :: ts, a :: as, h, he => by
    simp only [okVs, Bool.and_eq_true] at h
    simp only [fixVs, List.map_cons] at he
    injection he with h1 h2
    exact ⟨fixV_sound h.1 h1, fixVs_sound h.2 h2⟩
end

section
variable {st : St} {rl : List (Nat × Nat)} {nl : List Nat} {m : Mem} {lens : Option (List Nat)}
def ownLhs (st : St) (rl : List (Nat × Nat)) (nl : List Nat) : List (Nat × OwnB) → List (Option OwnB)
  | [] => []
  | p :: l => (bif nof nl p.1 then some ⟨p.2.et, p.2.sz, []⟩ else st.own (rof rl p.1)) :: ownLhs st rl nl l
def boxLhs (st : St) (rl : List (Nat × Nat)) (nl : List Nat) : List (Nat × List Cell) → List (List Cell)
  | [] => []
  | p :: l => fixL st (rof rl) (nof nl) ((st.box (rof rl p.1)).getD []) p.2 :: boxLhs st rl nl l
def seeOk (lens : Option (List Nat)) (st : St) (rl : List (Nat × Nat)) (nl : List Nat) (m : Mem) : Bool :=
  m.keysB rl nl && (m.own.all fun p => !nof nl p.1 || Nat.blt 0 p.2.sz) && m.box.all fun p => !nof nl p.1 && match st.box (rof rl p.1) with
    | some cs => okL lens (rof rl) (nof nl) m cs p.2
    | none => false
def seeL (st : St) (rl : List (Nat × Nat)) (nl : List Nat) (m : Mem) : List (Option OwnB) × List (List Cell) := (ownLhs st rl nl m.own, boxLhs st rl nl m.box)
def seeR (rl : List (Nat × Nat)) (m : Mem) : List (Option OwnB) × List (List Cell) := (m.own.map fun p => some p.2, m.box.map fun p => p.2.map (Cell.ren (rof rl)))

theorem own_sound : ∀ {l : List (Nat × OwnB)}, (l.all fun p => !nof nl p.1 || Nat.blt 0 p.2.sz) = true → ownLhs st rl nl l = (l.map fun p => some p.2) → OwnL st rl nl l
  | [], _, _ => trivial
  | p :: l, h, he => by
    simp only [List.all_cons, Bool.and_eq_true] at h
    simp only [ownLhs, List.map_cons] at he
    injection he with h1 h2
    refine ⟨?_, own_sound h.2 h2⟩
    cases hn : nof nl p.1 with
    | true =>
      rw [hn] at h1
      have h3 : (⟨p.2.et, p.2.sz, []⟩ : OwnB) = p.2 := by simpa using h1
      refine .inl ⟨rfl, (congrArg OwnB.xs h3).symm, ?_⟩
      have := h.1
      rw [hn] at this
      simpa [Nat.blt_eq] using this
    | false => rw [hn] at h1; exact .inr ⟨rfl, h1⟩
theorem box_sound : ∀ {l : List (Nat × List Cell)}, (l.all fun p => !nof nl p.1 && match st.box (rof rl p.1) with
    | some cs => okL lens (rof rl) (nof nl) m cs p.2
    | none => false) = true → boxLhs st rl nl l = (l.map fun p => p.2.map (Cell.ren (rof rl))) → BoxL (CellSee (lenP lens) st (rof rl) (nof nl) m) st rl nl l
  | [], _, _ => trivial
  | p :: l, h, he => by
    simp only [List.all_cons, Bool.and_eq_true] at h
    simp only [boxLhs, List.map_cons] at he
    injection he with h1 h2
    obtain ⟨⟨h3, h4⟩, h5⟩ := h
    refine ⟨⟨by simpa using h3, ?_⟩, box_sound (by simpa using h5) h2⟩
    split at h4
    · rename_i cs hcs
      rw [hcs] at h1
      exact ⟨cs, hcs, fixL_sound h4 h1⟩
    · cases h4
theorem sees_all (h : seeOk lens st rl nl m = true) (he : seeL st rl nl m = seeR rl m) : Sees (lenP lens) st (rof rl) (nof nl) m := by
  simp only [seeOk, Bool.and_eq_true] at h
  injection he with h1 h2
  exact sees_of h.1.1 (own_sound h.1.2 h1) (box_sound (lens := lens) h.2 h2)

def tsL (st : St) (rl : List (Nat × Nat)) (nl : List Nat) : List (Nat × TV) → List TV
  | [] => []
  | p :: l => fixV st (rof rl) (nof nl) (st.t p.1) p.2 :: tsL st rl nl l
def tsOk (st : St) (rl : List (Nat × Nat)) (nl : List Nat) (m : Mem) : List (Nat × TV) → Bool
  | [] => true
  | p :: l => okV none (rof rl) (nof nl) m (st.t p.1) p.2 && tsOk st rl nl m l
theorem ts_sound : ∀ {l : List (Nat × TV)}, tsOk st rl nl m l = true → tsL st rl nl l = (l.map fun p => p.2.ren (rof rl)) → AllT (CellSee (fun _ => True) st (rof rl) (nof nl) m) st l
  | [], _, _ => trivial
  | p :: l, h, he => by
    simp only [tsOk, Bool.and_eq_true] at h
    simp only [tsL, List.map_cons] at he
    injection he with h1 h2
    exact ⟨fixV_sound (lens := none) h.1 h1, ts_sound h.2 h2⟩

variable {P : Program} {Γ : Types} {A nt : Nat}
/-- A state seen as another. -/
theorem oT (rl : List (Nat × Nat)) (nl : List Nat) {ts : List (Nat × TV)} {nx : Nat}
    (h : (seeOk none st rl nl m && tsOk st rl nl m ts && lows A rl nl m ts nx && lowcB m nx) = true := by kernel_rfl)
    (he : (seeL st rl nl m, tsL st rl nl ts) = (seeR rl m, ts.map fun p => p.2.ren (rof rl)) := by kernel_rfl) : To A st (m.st (tl ts) nx) := by
  simp only [Bool.and_eq_true] at h
  obtain ⟨⟨⟨h1, h2⟩, h3⟩, h4⟩ := h
  injection he with e1 e2
  simp only [seeOk, Bool.and_eq_true] at h1
  injection e1 with e3 e4
  exact to_see rl nl m ts nx h1.1.1 h3 (lowc_of h4) (own_sound h1.1.2 e3) (box_sound (lens := none) h1.2 e4) (ts_sound h2 e2)

@[reducible] def Is (p : TV × Mem) (tv : TV) (m : Mem) : Prop := tv = p.1 ∧ m = p.2
theorem oF {rs : List ResultVar} {ρ : Type} {R : ρ → TV × Mem} {r r' : ρ} (hF : some r' = some r) (rl : List (Nat × Nat)) (nl : List Nat)
    (h : ((resT Γ st rs).isSome && (rl.all fun p => Nat.ble A p.1) && (nl.all fun k => Nat.ble A k) && seeOk none st rl nl (R r').2 && okV none (rof rl) (nof nl) (R r').2 (resV ((resT Γ st rs).getD [])) (R r').1) = true := by kernel_rfl)
    (he : (seeL st rl nl (R r').2, fixV st (rof rl) (nof nl) (resV ((resT Γ st rs).getD [])) (R r').1) = (seeR rl (R r').2, (R r').1.ren (rof rl)) := by kernel_rfl) :
    Fin Γ A rs (Is (R r)) st := by
  obtain rfl := some_eq hF
  simp only [Bool.and_eq_true] at h
  obtain ⟨⟨⟨⟨h1, h2⟩, h3⟩, h4⟩, h5⟩ := h
  injection he with e1 e2
  obtain ⟨xs, hxs⟩ := Option.isSome_iff_exists.1 h1
  rw [hxs] at h5 e2
  exact fin_intro hxs h2 h3 (sees_all h4 e1) (fixV_sound (lens := none) h5 e2) ⟨rfl, rfl⟩
theorem oO {ρ : Type} {k : ρ → AEx} {S : ρ → St} {r r' : ρ} {ae : AEx} (hF : some r' = some r) (rl : List (Nat × Nat)) (nl : List Nat) {ts : List (Nat × TV)} {nx : Nat} (hS : S r' = m.st (tl ts) nx) (hk : ae = k r' := by kernel_rfl)
    (h : (seeOk none st rl nl m && tsOk st rl nl m ts && lows A rl nl m ts nx && lowcB m nx) = true := by kernel_rfl)
    (he : (seeL st rl nl m, tsL st rl nl ts) = (seeR rl m, ts.map fun p => p.2.ren (rof rl)) := by kernel_rfl) : Out A k S r ae st := by
  obtain rfl := some_eq hF
  exact out_intro hk (by rw [hS]; exact oT rl nl h he)
end

/-! ### Operations in their order -/
section
variable {P : Program} {Γ : Types} {A nt : Nat} {ops : Array Oper} {base k : Nat} {o : Oper} {l : List Oper} {K : St → Prop} {st : St} {Q : AEx → St → Prop}

def guardT (ops : Array Oper) (o : Oper) (st : St) : Bool := match guardB ops o st with
  | some true => true
  | _ => false
theorem guardT_spec (h : guardT ops o st = true) : guardB ops o st = some true := by
  unfold guardT at h
  split at h
  · assumption
  · cases h
def step1 (Γ : Types) (nt : Nat) (ops : Array Oper) (base : Nat) (o : Oper) (st : St) : Option (Option Eff) :=
  match dstOk nt o.dst with
  | false => none
  | true => match guardB ops o st with
    | none => none
    | some false => some none
    | some true => match aeff Γ base o.op st with
      | none => none
      | some e => some (some ⟨e.v, e.ou, e.bu, []⟩)
def runO (Γ : Types) (nt : Nat) (ops : Array Oper) (base : Nat) : Nat → Nat → List Oper → St → Option St
  | 0, _, _, st => some st
  | n + 1, k, l, st => match l with
    | [] => none
    | o :: l => match step1 Γ nt ops (base + 1000 * k) o st with
      | none => none
      | some none => runO Γ nt ops base n (k + 1) l (st.put o.dst (.tup []))
      | some (some e) => runO Γ nt ops base n (k + 1) l (st.app o.dst e)

theorem step1_eff {e : Eff} (h : step1 Γ nt ops base o st = some (some e)) : dstOk nt o.dst = true ∧ guardB ops o st = some true ∧ ∃ us, aeff Γ base o.op st = some ⟨e.v, e.ou, e.bu, us⟩ ∧ e.use = [] := by
  unfold step1 at h
  split at h
  · cases h
  · rename_i h1
    split at h
    · cases h
    · cases h
    · rename_i h2
      split at h
      · cases h
      · rename_i e' he'
        injection h with h; injection h with h; subst h
        exact ⟨h1, h2, e'.use, he', rfl⟩
theorem step1_skip (h : step1 Γ nt ops base o st = some none) : dstOk nt o.dst = true ∧ guardB ops o st = some false := by
  unfold step1 at h
  split at h
  · cases h
  · rename_i h1
    split at h
    · cases h
    · rename_i h2; exact ⟨h1, h2⟩
    · split at h <;> cases h

theorem aR [hΓ : TOk P Γ] (n : Nat) (hn : Aops P nt ops base (k + n) (l.drop n) K ((runO Γ nt ops base n k l st).getD st)) (h : (runO Γ nt ops base n k l st).isSome = true := by kernel_rfl) : Aops P nt ops base k l K st := by
  induction n generalizing k l st with
  | zero => exact hn
  | succ n ih =>
    cases l with
    | nil => cases h
    | cons o l =>
      simp only [runO] at h hn
      split at h
      · cases h
      · rename_i he
        obtain ⟨h1, h2⟩ := step1_skip he
        rw [he] at hn
        refine aops_skip h2 (dstOk_spec h1) (ih ?_ h)
        rw [show k + 1 + n = k + (n + 1) by omega]
        obtain ⟨x, hx⟩ := Option.isSome_iff_exists.1 h
        simp only [hx, Option.getD_some, List.drop_succ_cons] at hn ⊢
        exact hn
      · rename_i e he
        obtain ⟨h1, h2, us, h3, h4⟩ := step1_eff he
        rw [he] at hn
        refine aops_do h2 (dstOk_spec h1) (e := e) ?_ (ih ?_ h)
        · have := does_use (us := []) (does_eff hΓ.ok h3)
          obtain ⟨v, ou, bu, us'⟩ := e
          cases h4
          exact this
        · rw [show k + 1 + n = k + (n + 1) by omega]
          obtain ⟨x, hx⟩ := Option.isSome_iff_exists.1 h
          simp only [hx, Option.getD_some, List.drop_succ_cons] at hn ⊢
          exact hn
/-- The end. -/
theorem aE (h : K st) (hl : l.isEmpty = true := by kernel_rfl) : Aops P nt ops base k l K st := by
  cases l with
  | nil => exact aops_nil h
  | cons o l => cases hl

/-- One operation whose effect is told. -/
theorem aX [hΓ : TOk P Γ] {e : Eff} (he : aeff Γ (base + 1000 * k) o.op st = some e) (hn : Aops P nt ops base (k + 1) l K (st.app o.dst ⟨e.v, e.ou, e.bu, []⟩))
    (h : (dstOk nt o.dst && guardT ops o st) = true := by kernel_rfl) : Aops P nt ops base k (o :: l) K st := by
  rw [Bool.and_eq_true] at h
  exact aops_do (guardT_spec h.2) (dstOk_spec h.1) (does_use (does_eff hΓ.ok he)) hn
/-- The same, where the truth of the answer is known. -/
theorem aB [hΓ : TOk P Γ] {b c : Bool} (hb : b = c) (hn : Aops P nt ops base (k + 1) l K (st.app o.dst ⟨.b c, [], [], []⟩))
    (h : opX Γ nt ops (base + 1000 * k) o st = some (.b b, [], []) := by kernel_rfl) : Aops P nt ops base k (o :: l) K st := by
  subst hb
  exact aops_eff hΓ.ok _ _ _ h hn
theorem aL [hΓ : TOk P Γ] {α : Type} (f : α → List D) (xs : List α) (hn : Aops P nt ops base (k + 1) l K (st.app o.dst ⟨.i xs.length, [], [], []⟩))
    (h : opX Γ nt ops (base + 1000 * k) o st = some (.i (xs.map f).length, [], []) := by kernel_rfl) : Aops P nt ops base k (o :: l) K st :=
  aops_eff hΓ.ok _ _ _ (opx_len h) hn
/-- What is proved of it otherwise. -/
theorem aS {e : Eff} (he : Does P o (base + 1000 * k) st e) (hn : Aops P nt ops base (k + 1) l K (st.app o.dst ⟨e.v, e.ou, e.bu, []⟩))
    (h : (dstOk nt o.dst && guardT ops o st) = true := by kernel_rfl) : Aops P nt ops base k (o :: l) K st := by
  rw [Bool.and_eq_true] at h
  exact aops_do (guardT_spec h.2) (dstOk_spec h.1) (does_use he) hn
theorem aSb {b c : Bool} (he : Does P o (base + 1000 * k) st ⟨.b b, [], [], []⟩) (hb : b = c) (hn : Aops P nt ops base (k + 1) l K (st.app o.dst ⟨.b c, [], [], []⟩))
    (h : (dstOk nt o.dst && guardT ops o st) = true := by kernel_rfl) : Aops P nt ops base k (o :: l) K st := by
  subst hb; exact aS he hn h

/-! ### Calls -/
def callA (o : Oper) (st : St) : Option (FuncId × List TV) := match o.op with
  | .call ⟨.value f, args, _⟩ => match st.ev f, st.evs args.toList with
    | some (.v (.one (.fn g caps))), some tvs => some (g, tvs ++ caps.map fun id => TV.c (.box id 0))
    | _, _ => none
  | _ => none
def callOk (o : Oper) (st : St) (g : FuncId) (lens : List Nat) (rl : List (Nat × Nat)) (nl : List Nat) (m m' : Mem) (tv : TV) (al : List TV) (fl : Bool := false) : Bool :=
  seeOk (some lens) st rl nl m && m.leftB m' tv lens fl && (m'.own.all fun p => !((m.own.lookup p.1).isSome && nof nl p.1)) && match callA o st with
  | some (g', tvs) => Nat.beq g' g && okVs (some lens) (rof rl) (nof nl) m tvs al
  | none => false
def callL (o : Oper) (st : St) (rl : List (Nat × Nat)) (nl : List Nat) (m : Mem) (al : List TV) : (List (Option OwnB) × List (List Cell)) × List TV :=
  (seeL st rl nl m, match callA o st with
    | some (_, tvs) => fixVs st (rof rl) (nof nl) tvs al
    | none => [])
def callR (rl : List (Nat × Nat)) (m : Mem) (al : List TV) : (List (Option OwnB) × List (List Cell)) × List TV := (seeR rl m, al.map (TV.ren (rof rl)))

theorem callA_spec {g : FuncId} {tvs : List TV} (h : callA o st = some (g, tvs)) : ∃ f args tys caps vs, o.op = .call ⟨.value f, args, tys⟩ ∧ st.ev f = some (.c (.fn g caps)) ∧ st.evs args.toList = some vs ∧ tvs = vs ++ caps.map fun id => TV.c (.box id 0) := by
  unfold callA at h
  split at h
  · rename_i f args tys ho
    split at h
    · rename_i g' caps vs h1 h2
      injection h with h; injection h with h3 h4
      subst h3 h4
      exact ⟨f, args, tys, caps, vs, ho, h1, h2, rfl⟩
    · cases h
  · cases h

section
variable {g : FuncId} {al : List TV} {m m' : Mem} {tv : TV}
theorem doesC (hH : Holds P g al m (fun tv' m'' => tv' = tv ∧ m'' = m')) (hpin : PinL m m'.own) (rl : List (Nat × Nat)) (nl lens : List Nat) {b : Nat} {fl : Bool} (hfl : fl = true → PlainO m'.own) (h : callOk o st g lens rl nl m m' tv al fl = true) (he : callL o st rl nl m al = callR rl m al) :
    Does P o b st (callE m m' (rof rl) (nof nl) lens b tv) := by
  simp only [callOk, Bool.and_eq_true] at h
  obtain ⟨⟨⟨h1, h2⟩, h0⟩, h3⟩ := h
  injection he with e1 e2
  split at h3
  · rename_i g' tvs hc
    rw [hc] at e2
    rw [Bool.and_eq_true] at h3
    have hg : g' = g := Nat.eq_of_beq_eq_true h3.1
    subst hg
    obtain ⟨f, args, tys, caps, vs, ho, hf, ha, rfl⟩ := callA_spec hc
    exact does_call ho hf ha (sees_all (lens := some lens) h1 e1) (fixVs_sound (lens := some lens) h3.2 e2) hH (left_of hfl h2) (pins_of hpin h0)
  · cases h3
theorem stableC {V : St → Prop} {U : List Nat} (hH : Holds P g al m (fun tv' m'' => tv' = tv ∧ m'' = m')) (hpin : PinL m m'.own) (rl : List (Nat × Nat)) (nl lens : List Nat) {b : Nat} {fl : Bool} (hfl : fl = true → PlainO m'.own) (h : callOk o st g lens rl nl m m' tv al fl = true) (he : callL o st rl nl m al = callR rl m al)
    (hU : U = (callE m m' (rof rl) (nof nl) lens b tv).use) : Stable V P ops o b st (callE m m' (rof rl) (nof nl) lens b tv) U := by
  simp only [callOk, Bool.and_eq_true] at h
  obtain ⟨⟨⟨h1, h2⟩, h0⟩, h3⟩ := h
  injection he with e1 e2
  split at h3
  · rename_i g' tvs hc
    rw [hc] at e2
    rw [Bool.and_eq_true] at h3
    have hg : g' = g := Nat.eq_of_beq_eq_true h3.1
    subst hg
    obtain ⟨f, args, tys, caps, vs, ho, hf, ha, rfl⟩ := callA_spec hc
    exact stable_call ho hf ha (sees_all (lens := some lens) h1 e1) (fixVs_sound (lens := some lens) h3.2 e2) hH (left_of hfl h2) (pins_of hpin h0) (by rw [hU, List.all_eq_true]; intro x hx; simpa using hx)
  · cases h3

theorem aCp (hH : Holds P g al m (fun tv' m'' => tv' = tv ∧ m'' = m')) (hpin : PinL m m'.own) (rl : List (Nat × Nat)) (nl lens : List Nat)
    (hn : Aops P nt ops base (k + 1) l K (st.app o.dst ⟨(callE m m' (rof rl) (nof nl) lens (base + 1000 * k) tv).v, (callE m m' (rof rl) (nof nl) lens (base + 1000 * k) tv).ou, (callE m m' (rof rl) (nof nl) lens (base + 1000 * k) tv).bu, []⟩))
    (h : (dstOk nt o.dst && guardT ops o st && callOk o st g lens rl nl m m' tv al) = true := by kernel_rfl) (he : callL o st rl nl m al = callR rl m al := by kernel_rfl) : Aops P nt ops base k (o :: l) K st := by
  rw [Bool.and_eq_true, Bool.and_eq_true] at h
  exact aops_do (guardT_spec h.1.2) (dstOk_spec h.1.1) (does_use (doesC hH hpin rl nl lens (fun h => by cases h) h.2 he)) hn
theorem pin_no : ∀ {l : List (Nat × OwnB)}, (l.all fun p => (m.own.lookup p.1).isNone) = true → PinL m l
  | [], _ => trivial
  | p :: l, h => by
    simp only [List.all_cons, Bool.and_eq_true] at h
    exact ⟨by have h1 := h.1; rw [Option.isNone_iff_eq_none] at h1; rw [h1]; trivial, pin_no h.2⟩
theorem aC (hH : Holds P g al m (fun tv' m'' => tv' = tv ∧ m'' = m')) (rl : List (Nat × Nat)) (nl lens : List Nat)
    (hn : Aops P nt ops base (k + 1) l K (st.app o.dst ⟨(callE m m' (rof rl) (nof nl) lens (base + 1000 * k) tv).v, (callE m m' (rof rl) (nof nl) lens (base + 1000 * k) tv).ou, (callE m m' (rof rl) (nof nl) lens (base + 1000 * k) tv).bu, []⟩))
    (h : (dstOk nt o.dst && guardT ops o st && callOk o st g lens rl nl m m' tv al && m'.own.all fun p => (m.own.lookup p.1).isNone) = true := by kernel_rfl) (he : callL o st rl nl m al = callR rl m al := by kernel_rfl) : Aops P nt ops base k (o :: l) K st := by
  rw [Bool.and_eq_true] at h
  exact aCp hH (pin_no h.2) rl nl lens hn h.1 he
/-- What comes out points nowhere: slices may be lent. -/
theorem aCf (hH : Holds P g al m (fun tv' m'' => tv' = tv ∧ m'' = m')) (hfl : PlainO m'.own) (rl : List (Nat × Nat)) (nl lens : List Nat)
    (hn : Aops P nt ops base (k + 1) l K (st.app o.dst ⟨(callE m m' (rof rl) (nof nl) lens (base + 1000 * k) tv).v, (callE m m' (rof rl) (nof nl) lens (base + 1000 * k) tv).ou, (callE m m' (rof rl) (nof nl) lens (base + 1000 * k) tv).bu, []⟩))
    (h : (dstOk nt o.dst && guardT ops o st && callOk o st g lens rl nl m m' tv al true && m'.own.all fun p => (m.own.lookup p.1).isNone) = true := by kernel_rfl) (he : callL o st rl nl m al = callR rl m al := by kernel_rfl) : Aops P nt ops base k (o :: l) K st := by
  rw [Bool.and_eq_true, Bool.and_eq_true, Bool.and_eq_true] at h
  exact aops_do (guardT_spec h.1.1.2) (dstOk_spec h.1.1.1) (does_use (doesC hH (pin_no h.2) rl nl lens (fun _ => hfl) h.1.2 he)) hn
/-- A call that answers a truth that is known. -/
theorem aCb {b c : Bool} (hH : Holds P g al m (fun tv' m'' => tv' = .b b ∧ m'' = m')) (rl : List (Nat × Nat)) (nl lens : List Nat) (hb : b = c)
    (hn : Aops P nt ops base (k + 1) l K (st.app o.dst ⟨.b c, (callE m m' (rof rl) (nof nl) lens (base + 1000 * k) (.b b)).ou, (callE m m' (rof rl) (nof nl) lens (base + 1000 * k) (.b b)).bu, []⟩))
    (h : (dstOk nt o.dst && guardT ops o st && callOk o st g lens rl nl m m' (.b b) al && m'.own.all fun p => (m.own.lookup p.1).isNone) = true := by kernel_rfl) (he : callL o st rl nl m al = callR rl m al := by kernel_rfl) : Aops P nt ops base k (o :: l) K st := by
  subst hb
  exact aC hH rl nl lens hn h he
end
end

/-! ### Regions whose order is drawn -/
section
variable {P : Program} {Γ : Types} {A nt : Nat} {base k : Nat} {o : Oper} {os l : List Oper} {st st0 : St} {Q : AEx → St → Prop} {id : Nat} {acc : List Rec}

def insN (x : Nat) (l : List Nat) : List Nat := bif l.elem x then l else x :: l
def ptab (ops : List Oper) : List (List Nat) :=
  ops.foldl (fun pt o => pt ++ [o.after.toList.foldl (fun s e => bif Region.binds .any e then insN e.on ((pt.getD e.on []).foldl (fun s x => insN x s) s) else s) []]) []

/-- As long, of the same type. -/
def lenEq : Option OwnB → Option OwnB → Prop
  | some a, some b => a.et = b.et ∧ a.sz = b.sz ∧ a.xs.length = b.xs.length
  | none, none => True
  | _, _ => False
theorem lenEq.refl : ∀ (a : Option OwnB), lenEq a a
  | some _ => ⟨rfl, rfl, rfl⟩
  | none => trivial
theorem lenEq.symm {a b : Option OwnB} (h : lenEq a b) : lenEq b a := by
  cases a <;> cases b <;> first | exact h | exact ⟨h.1.symm, h.2.1.symm, h.2.2.symm⟩
theorem lenEq.trans {a b c : Option OwnB} (h : lenEq a b) (g : lenEq b c) : lenEq a c := by
  cases a <;> cases b <;> cases c <;> first | exact h | exact g | exact h.elim | exact g.elim | exact ⟨h.1.trans g.1, h.2.1.trans g.2.1, h.2.2.trans g.2.2⟩
def VL (W : List Nat) (st0 σ : St) : Prop := ∀ id ∈ W, lenEq (σ.own id) (st0.own id)
def RW (W : List Nat) (st0 : St) (r : Rec) : Prop := ∀ p ∈ r.ou, p.1 ∈ W → lenEq p.2 (st0.own p.1)
def okW (W : List Nat) (r : Rec) : Bool := r.ou.all fun p => !W.elem p.1
theorem okW_spec {W : List Nat} {r : Rec} (h : okW W r = true) : RW W st0 r := by
  intro p hp hw
  have := List.all_eq_true.1 h p hp
  simp [hw] at this
theorem VL.step {W : List Nat} {r : Rec} (hv : VL W st0 st) (hr : RW W st0 r) : VL W st0 (stepX r st) := by
  intro id hid
  rw [stepX_eq]
  show lenEq (updL st.own r.ou id) _
  rcases updL_spec r.ou st.own id with ⟨h1, _⟩ | ⟨v, h1, h2⟩
  · rw [h1]; exact hv id hid
  · rw [h2]; exact hr (id, v) h1 hid
theorem VL.all {W : List Nat} {L : Nat → Bool} : ∀ {l : List Rec} {k : Nat} {st : St}, (∀ r ∈ l, RW W st0 r) → VL W st0 st → VL W st0 (stOf L k l st)
  | [], _, _, _, hv => hv
  | r :: l, k, st, h, hv => by
    simp only [stOf]
    refine VL.all (fun r' hr' => h r' (List.mem_cons_of_mem _ hr')) ?_
    split
    · exact hv.step (h r (by simp))
    · exact hv

def DR (P : Program) (A nt id base : Nat) (W : List Nat) (os : List Oper) (Q : AEx → St → Prop) (st0 : St) (acc : List Rec) (k : Nat) (l : List Oper) (st : St) : Prop :=
  acc.map Prod.fst ++ l = os → (∀ r ∈ acc, RW W st0 r) → VL W st0 st → (∀ (K : St → Prop) (rest : List Rec), Chain (VL W st0) P ⟨os⟩ nt base K k rest st → Chain (VL W st0) P ⟨os⟩ nt base K 0 (acc ++ rest) st0) → Awp P A nt (.region id ⟨os⟩ true) Q st0

/-- A region whose order is drawn. W: the slices that it writes in place. -/
theorem aDw (W : List Nat) (h : DR P A nt id st.next W os Q st [] 0 os st) : Awp P A nt (.region id ⟨os⟩ true) Q st := h rfl (fun _ hr => nomatch hr) (fun id _ => lenEq.refl _) (fun K rest h => h)
theorem aD (h : DR P A nt id st.next [] os Q st [] 0 os st) : Awp P A nt (.region id ⟨os⟩ true) Q st := aDw [] h
section
variable {W : List Nat}
theorem dE [hm : Mixed P] (hK : Q .normal (st.nx (st0.next + 1000 * os.length))) (h : (orderB ⟨os⟩ acc (ptab os) && l.isEmpty) = true := by kernel_rfl) : DR P A nt id st0.next W os Q st0 acc k l st := by
  intro h1 h3 h4 h2
  rw [Bool.and_eq_true] at h
  cases l with
  | nil =>
    refine awp_region_any (V := VL W st0) hm.ok acc (ptab os) (by simpa using h1) h.1 ?_ fun L => VL.all h3 fun id _ => lenEq.refl _
    have := h2 (fun st' => Q .normal (st'.nx (st0.next + 1000 * os.length))) [] hK
    simpa using this
  | cons o l => cases h.2

theorem d1 {r : Rec} (hr : r.1 = o) (hw : VL W st0 st → RW W st0 r) (hs : VL W st0 st → StepOk (VL W st0) P ⟨os⟩ nt base k r st) (hn : DR P A nt id base W os Q st0 (acc ++ [r]) (k + 1) l (stepX r st)) : DR P A nt id base W os Q st0 acc k (o :: l) st := by
  intro h1 h3 h4 h2
  have hw := hw h4
  have hs := hs h4
  refine hn ?_ (fun r' hr' => ?_) (h4.step hw) fun K rest hc => ?_
  · rw [List.map_append, List.append_assoc]; subst hr; exact h1
  · rcases List.mem_append.1 hr' with hr' | hr'
    · exact h3 r' hr'
    · rw [List.mem_singleton.1 hr']; exact hw
  · rw [List.append_assoc]; exact h2 K (r :: rest) ⟨hs, hc⟩

def recO (Γ : Types) (nt : Nat) (ops : Array Oper) (base : Nat) : Nat → Nat → List Oper → St → Option (List Rec × St)
  | 0, _, _, st => some ([], st)
  | n + 1, k, l, st => match l with
    | [] => none
    | o :: l => match step1 Γ nt ops (base + 1000 * k) o st with
      | none => none
      | some none => match recO Γ nt ops base n (k + 1) l (st.put o.dst (.tup [])) with
        | some (rs, st') => some ((o, none, []) :: rs, st')
        | none => none
      | some (some e) => match recO Γ nt ops base n (k + 1) l (st.app o.dst e) with
        | some (rs, st') => some ((o, some e, opUses st o.op) :: rs, st')
        | none => none
def recW (W : List Nat) (x : Option (List Rec × St)) : Bool := match x with
  | some (rs, _) => rs.all (okW W)
  | none => false

theorem dR [hΓ : TOk P Γ] (n : Nat) (hn : DR P A nt id base W os Q st0 (acc ++ ((recO Γ nt ⟨os⟩ base n k l st).getD ([], st)).1) (k + n) (l.drop n) ((recO Γ nt ⟨os⟩ base n k l st).getD ([], st)).2)
    (h : recW W (recO Γ nt ⟨os⟩ base n k l st) = true := by kernel_rfl) : DR P A nt id base W os Q st0 acc k l st := by
  induction n generalizing k l st acc with
  | zero => simpa [recO] using hn
  | succ n ih =>
    cases l with
    | nil => cases h
    | cons o l =>
      cases hs : step1 Γ nt ⟨os⟩ (base + 1000 * k) o st with
      | none => simp [recO, hs, recW] at h
      | some x =>
        cases x with
        | none =>
          obtain ⟨h1, h2⟩ := step1_skip hs
          simp only [recO, hs] at h hn
          cases hr : recO Γ nt ⟨os⟩ base n (k + 1) l (st.put o.dst (.tup [])) with
          | none => simp [hr, recW] at h
          | some x =>
            obtain ⟨rs, st'⟩ := x
            simp only [hr, Option.getD_some, List.drop_succ_cons, recW, List.all_cons, Bool.and_eq_true] at hn h
            refine d1 (r := (o, none, [])) rfl (fun _ => okW_spec h.1) (fun _ => ⟨dstOk_spec h1, h2⟩) (ih ?_ (by show recW W (recO Γ nt ⟨os⟩ base n (k + 1) l (st.put o.dst (.tup []))) = true; rw [hr]; exact h.2))
            show DR P A nt id base W os Q st0 (acc ++ [(o, none, [])] ++ ((recO Γ nt ⟨os⟩ base n (k + 1) l (st.put o.dst (.tup []))).getD ([], _)).1) (k + 1 + n) (l.drop n) ((recO Γ nt ⟨os⟩ base n (k + 1) l (st.put o.dst (.tup []))).getD ([], _)).2
            rw [hr, show k + 1 + n = k + (n + 1) by omega, List.append_assoc]
            exact hn
        | some e =>
          obtain ⟨h1, h2, us, h3, h4⟩ := step1_eff hs
          simp only [recO, hs] at h hn
          cases hr : recO Γ nt ⟨os⟩ base n (k + 1) l (st.app o.dst e) with
          | none => simp [hr, recW] at h
          | some x =>
            obtain ⟨rs, st'⟩ := x
            simp only [hr, Option.getD_some, List.drop_succ_cons, recW, List.all_cons, Bool.and_eq_true] at hn h
            have hst : StepOk (VL W st0) P ⟨os⟩ nt base k (o, some e, opUses st o.op) st := by
              refine ⟨dstOk_spec h1, h2, fun σ hσ hv => ?_⟩
              have := does_use (us := []) (stable_eff (V := VL W st0) (ops := ⟨os⟩) hΓ.ok h3 (U := opUses st o.op) (by rw [List.all_eq_true]; intro x hx; simpa using hx) σ hσ hv)
              obtain ⟨v, ou, bu, us'⟩ := e
              cases h4
              exact this
            refine d1 (r := (o, some e, opUses st o.op)) rfl (fun _ => okW_spec h.1) (fun _ => hst) (ih ?_ (by show recW W (recO Γ nt ⟨os⟩ base n (k + 1) l (st.app o.dst e)) = true; rw [hr]; exact h.2))
            show DR P A nt id base W os Q st0 (acc ++ [(o, some e, opUses st o.op)] ++ ((recO Γ nt ⟨os⟩ base n (k + 1) l (st.app o.dst e)).getD ([], _)).1) (k + 1 + n) (l.drop n) ((recO Γ nt ⟨os⟩ base n (k + 1) l (st.app o.dst e)).getD ([], _)).2
            rw [hr, show k + 1 + n = k + (n + 1) by omega, List.append_assoc]
            exact hn

theorem stepOk_of {V : St → Prop} {ops : Array Oper} {e : Eff} {U : List Nat} (hd : ∀ d, o.dst = some d → d < nt) (hg : guardB ops o st = some true) (hs : Stable V P ops o (base + 1000 * k) st e U) : StepOk V P ops nt base k (o, some e, U) st := ⟨hd, hg, hs⟩
/-- One operation in a region whose order is drawn, with what is proved of it. -/
theorem dG {e : Eff} {U : List Nat} (he : VL W st0 st → Stable (VL W st0) P ⟨os⟩ o (base + 1000 * k) st e U) (hw : VL W st0 st → RW W st0 (o, some ⟨e.v, e.ou, e.bu, []⟩, U))
    (hn : DR P A nt id base W os Q st0 (acc ++ [(o, some ⟨e.v, e.ou, e.bu, []⟩, U)]) (k + 1) l (stepX (o, some ⟨e.v, e.ou, e.bu, []⟩, U) st)) (h : (dstOk nt o.dst && guardT ⟨os⟩ o st) = true) : DR P A nt id base W os Q st0 acc k (o :: l) st := by
  rw [Bool.and_eq_true] at h
  exact d1 rfl hw (fun hv => stepOk_of (dstOk_spec h.1) (guardT_spec h.2) fun σ hσ hv' => does_use (he hv σ hσ hv')) hn
theorem uses_all (st : St) (o : Op) : ((opUses st o).all fun id => (opUses st o).elem id) = true := by rw [List.all_eq_true]; intro x hx; simpa using hx
theorem dX [hΓ : TOk P Γ] {e : Eff} (he : aeff Γ (base + 1000 * k) o.op st = some e)
    (hn : DR P A nt id base W os Q st0 (acc ++ [(o, some ⟨e.v, e.ou, e.bu, []⟩, opUses st o.op)]) (k + 1) l (stepX (o, some ⟨e.v, e.ou, e.bu, []⟩, opUses st o.op) st))
    (h : (dstOk nt o.dst && guardT ⟨os⟩ o st && okW W (o, some ⟨e.v, e.ou, e.bu, []⟩, opUses st o.op)) = true := by kernel_rfl) : DR P A nt id base W os Q st0 acc k (o :: l) st := by
  rw [Bool.and_eq_true] at h
  exact dG (fun _ => stable_eff (ops := ⟨os⟩) hΓ.ok he (uses_all _ _)) (fun _ => okW_spec h.2) hn h.1
theorem dB [hΓ : TOk P Γ] {b c : Bool} (hb : b = c) (hn : DR P A nt id base W os Q st0 (acc ++ [(o, some ⟨.b c, [], [], []⟩, opUses st o.op)]) (k + 1) l (stepX (o, some ⟨.b c, [], [], []⟩, opUses st o.op) st))
    (h : opX Γ nt ⟨os⟩ (base + 1000 * k) o st = some (.b b, [], []) := by kernel_rfl) : DR P A nt id base W os Q st0 acc k (o :: l) st := by
  subst hb
  obtain ⟨h1, h2, us, h3⟩ := opX_spec h
  exact d1 rfl (fun _ => okW_spec rfl) (fun _ => stepOk_of h1 h2 fun σ hσ hv => does_use (e := ⟨.b b, [], [], us⟩) (stable_eff (ops := ⟨os⟩) hΓ.ok h3 (uses_all st o.op) σ hσ hv)) hn
theorem dL [hΓ : TOk P Γ] {α : Type} (f : α → List D) (xs : List α) (hn : DR P A nt id base W os Q st0 (acc ++ [(o, some ⟨.i xs.length, [], [], []⟩, opUses st o.op)]) (k + 1) l (stepX (o, some ⟨.i xs.length, [], [], []⟩, opUses st o.op) st))
    (h : opX Γ nt ⟨os⟩ (base + 1000 * k) o st = some (.i (xs.map f).length, [], []) := by kernel_rfl) : DR P A nt id base W os Q st0 acc k (o :: l) st := by
  obtain ⟨h1, h2, us, h3⟩ := opX_spec (opx_len h)
  exact d1 rfl (fun _ => okW_spec rfl) (fun _ => stepOk_of h1 h2 fun σ hσ hv => does_use (e := ⟨.i xs.length, [], [], us⟩) (stable_eff (ops := ⟨os⟩) hΓ.ok h3 (uses_all st o.op) σ hσ hv)) hn
theorem dS {e : Eff} {U : List Nat} (he : Stable (VL W st0) P ⟨os⟩ o (base + 1000 * k) st e U) (hn : DR P A nt id base W os Q st0 (acc ++ [(o, some ⟨e.v, e.ou, e.bu, []⟩, U)]) (k + 1) l (stepX (o, some ⟨e.v, e.ou, e.bu, []⟩, U) st))
    (h : (dstOk nt o.dst && guardT ⟨os⟩ o st && okW W (o, some ⟨e.v, e.ou, e.bu, []⟩, U)) = true := by kernel_rfl) : DR P A nt id base W os Q st0 acc k (o :: l) st := by
  rw [Bool.and_eq_true] at h
  exact dG (fun _ => he) (fun _ => okW_spec h.2) hn h.1
theorem dSb {b c : Bool} {U : List Nat} (he : Stable (VL W st0) P ⟨os⟩ o (base + 1000 * k) st ⟨.b b, [], [], []⟩ U) (hb : b = c) (hn : DR P A nt id base W os Q st0 (acc ++ [(o, some ⟨.b c, [], [], []⟩, U)]) (k + 1) l (stepX (o, some ⟨.b c, [], [], []⟩, U) st))
    (h : (dstOk nt o.dst && guardT ⟨os⟩ o st) = true := by kernel_rfl) : DR P A nt id base W os Q st0 acc k (o :: l) st := by
  subst hb; exact dG (fun _ => he) (fun _ => okW_spec rfl) hn h
section
variable {g : FuncId} {al : List TV} {m m' : Mem} {tv : TV}
abbrev callX (m m' : Mem) (rl : List (Nat × Nat)) (nl lens : List Nat) (b : Nat) (tv v : TV) (o : Oper) : Rec := (o, some ⟨v, (callE m m' (rof rl) (nof nl) lens b tv).ou, (callE m m' (rof rl) (nof nl) lens b tv).bu, []⟩, (callE m m' (rof rl) (nof nl) lens b tv).use)
theorem dCp (hH : Holds P g al m (fun tv' m'' => tv' = tv ∧ m'' = m')) (hpin : PinL m m'.own) (rl : List (Nat × Nat)) (nl lens : List Nat)
    (hn : DR P A nt id base W os Q st0 (acc ++ [callX m m' rl nl lens (base + 1000 * k) tv (callE m m' (rof rl) (nof nl) lens (base + 1000 * k) tv).v o]) (k + 1) l (stepX (callX m m' rl nl lens (base + 1000 * k) tv (callE m m' (rof rl) (nof nl) lens (base + 1000 * k) tv).v o) st))
    (h : (dstOk nt o.dst && guardT ⟨os⟩ o st && callOk o st g lens rl nl m m' tv al && okW W (callX m m' rl nl lens (base + 1000 * k) tv (callE m m' (rof rl) (nof nl) lens (base + 1000 * k) tv).v o)) = true := by kernel_rfl) (he : callL o st rl nl m al = callR rl m al := by kernel_rfl) : DR P A nt id base W os Q st0 acc k (o :: l) st := by
  rw [Bool.and_eq_true, Bool.and_eq_true] at h
  exact dG (fun _ => stableC hH hpin rl nl lens (fun h => by cases h) h.1.2 he rfl) (fun _ => okW_spec h.2) hn h.1.1
theorem dC (hH : Holds P g al m (fun tv' m'' => tv' = tv ∧ m'' = m')) (rl : List (Nat × Nat)) (nl lens : List Nat)
    (hn : DR P A nt id base W os Q st0 (acc ++ [callX m m' rl nl lens (base + 1000 * k) tv (callE m m' (rof rl) (nof nl) lens (base + 1000 * k) tv).v o]) (k + 1) l (stepX (callX m m' rl nl lens (base + 1000 * k) tv (callE m m' (rof rl) (nof nl) lens (base + 1000 * k) tv).v o) st))
    (h : (dstOk nt o.dst && guardT ⟨os⟩ o st && callOk o st g lens rl nl m m' tv al && okW W (callX m m' rl nl lens (base + 1000 * k) tv (callE m m' (rof rl) (nof nl) lens (base + 1000 * k) tv).v o) && m'.own.all fun p => (m.own.lookup p.1).isNone) = true := by kernel_rfl) (he : callL o st rl nl m al = callR rl m al := by kernel_rfl) : DR P A nt id base W os Q st0 acc k (o :: l) st := by
  rw [Bool.and_eq_true] at h
  exact dCp hH (pin_no h.2) rl nl lens hn h.1 he
theorem dCf (hH : Holds P g al m (fun tv' m'' => tv' = tv ∧ m'' = m')) (hfl : PlainO m'.own) (rl : List (Nat × Nat)) (nl lens : List Nat)
    (hn : DR P A nt id base W os Q st0 (acc ++ [callX m m' rl nl lens (base + 1000 * k) tv (callE m m' (rof rl) (nof nl) lens (base + 1000 * k) tv).v o]) (k + 1) l (stepX (callX m m' rl nl lens (base + 1000 * k) tv (callE m m' (rof rl) (nof nl) lens (base + 1000 * k) tv).v o) st))
    (h : (dstOk nt o.dst && guardT ⟨os⟩ o st && callOk o st g lens rl nl m m' tv al true && okW W (callX m m' rl nl lens (base + 1000 * k) tv (callE m m' (rof rl) (nof nl) lens (base + 1000 * k) tv).v o) && m'.own.all fun p => (m.own.lookup p.1).isNone) = true := by kernel_rfl) (he : callL o st rl nl m al = callR rl m al := by kernel_rfl) : DR P A nt id base W os Q st0 acc k (o :: l) st := by
  rw [Bool.and_eq_true, Bool.and_eq_true, Bool.and_eq_true] at h
  exact dG (fun _ => stableC hH (pin_no h.2) rl nl lens (fun _ => hfl) h.1.1.2 he rfl) (fun _ => okW_spec h.1.2) hn h.1.1.1
theorem dCb {b c : Bool} (hH : Holds P g al m (fun tv' m'' => tv' = .b b ∧ m'' = m')) (rl : List (Nat × Nat)) (nl lens : List Nat) (hb : b = c)
    (hn : DR P A nt id base W os Q st0 (acc ++ [callX m m' rl nl lens (base + 1000 * k) (.b b) (.b c) o]) (k + 1) l (stepX (callX m m' rl nl lens (base + 1000 * k) (.b b) (.b c) o) st))
    (h : (dstOk nt o.dst && guardT ⟨os⟩ o st && callOk o st g lens rl nl m m' (.b b) al && okW W (callX m m' rl nl lens (base + 1000 * k) (.b b) (.b b) o) && m'.own.all fun p => (m.own.lookup p.1).isNone) = true := by kernel_rfl) (he : callL o st rl nl m al = callR rl m al := by kernel_rfl) : DR P A nt id base W os Q st0 acc k (o :: l) st := by
  subst hb
  exact dC hH rl nl lens hn h he
end
end
end
end Go.Eng
