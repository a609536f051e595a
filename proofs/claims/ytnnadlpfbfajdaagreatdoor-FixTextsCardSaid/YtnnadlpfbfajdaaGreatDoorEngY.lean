/-
Operations that may fail, in the form of the rules whose state is computed.
-/
import Derived.Test.YtnnadlpfbfajdaaGreatDoorEngX
namespace Go.Eng
open Go
set_option linter.unusedVariables false
set_option linter.unusedSimpArgs false

section
variable {Γ : Types} {base : Nat} {st : St} {α : Type} {f : α → List D}

/-- The elements' type of a slice, and how many cells one has. -/
def slE (Γ : Types) (t : TypeId) : TypeId := match Γ.lookup t with
  | some ti => match ti.kind with
    | .slice et => et
    | _ => 0
  | none => 0
def slT (Γ : Types) (t : TypeId) : TI := (Γ.lookup (slE Γ t)).getD ⟨0, 0, [], false, .other⟩
def slB (Γ : Types) (t : TypeId) : Bool := match Γ.lookup t with
  | some ti => match ti.kind with
    | .slice et => (Γ.lookup et).isSome
    | _ => false
  | none => false
def strB (Γ : Types) (t : TypeId) : Bool := match Γ.lookup t with
  | some ti => match ti.kind with
    | .str => true
    | _ => false
  | none => false
theorem slB_spec {t : TypeId} (h : slB Γ t = true) : ∃ ti, Γ.lookup t = some ti ∧ ti.kind = .slice (slE Γ t) ∧ Γ.lookup (slE Γ t) = some (slT Γ t) := by
  unfold slB at h
  unfold slT slE
  cases h1 : Γ.lookup t with
  | none => rw [h1] at h; cases h
  | some ti =>
    rw [h1] at h
    simp only at h ⊢
    refine ⟨ti, rfl, ?_⟩
    cases h2 : ti.kind with
    | slice et =>
      rw [h2] at h
      simp only at h ⊢
      obtain ⟨te, h3⟩ := Option.isSome_iff_exists.1 h
      exact ⟨trivial, by rw [h3]; rfl⟩
    | _ => rw [h2] at h; cases h
theorem strB_spec {t : TypeId} (h : strB Γ t = true) : ∃ ti, Γ.lookup t = some ti ∧ ti.kind = .str := by
  unfold strB at h
  cases h1 : Γ.lookup t with
  | none => rw [h1] at h; cases h
  | some ti =>
    rw [h1] at h
    simp only at h
    refine ⟨ti, rfl, ?_⟩
    cases h2 : ti.kind <;> rw [h2] at h <;> first | rfl | cases h

def evI (st : St) (x : Operand) : Option Int := match st.ev x with
  | some (.v (.one (.d (.int _ n)))) => some n
  | _ => none
def evL (st : St) (x : Operand) : Option (List (List D)) := match st.ev x with
  | some (.v (.one (.d (.lst xs)))) => some xs
  | _ => none
def evS (st : St) (x : Operand) : Option (List UInt8) := match st.ev x with
  | some (.v (.one (.d (.str s)))) => some s
  | _ => none
def evO (st : St) (x : Operand) : Option (Nat × OwnB) := match st.ev x with
  | some (.v (.one (.own id none))) => (st.own id).map fun e => (id, e)
  | _ => none
theorem evI_spec {x : Operand} {n : Int} (h : evI st x = some n) : ∃ k, st.ev x = some (.int k n) := by
  unfold evI at h
  split at h
  · rename_i k n' h1; injection h with h; subst h; exact ⟨k, h1⟩
  · cases h
theorem evL_spec {x : Operand} {xs : List (List D)} (h : evL st x = some xs) : st.ev x = some (.c (.d (.lst xs))) := by
  unfold evL at h
  split at h
  · rename_i h1; injection h with h; subst h; exact h1
  · cases h
theorem evS_spec {x : Operand} {s : List UInt8} (h : evS st x = some s) : st.ev x = some (.c (.d (.str s))) := by
  unfold evS at h
  split at h
  · rename_i h1; injection h with h; subst h; exact h1
  · cases h
theorem evO_spec {x : Operand} {id : Nat} {e : OwnB} (h : evO st x = some (id, e)) : st.ev x = some (.c (.own id none)) ∧ st.own id = some e := by
  unfold evO at h
  split at h
  · rename_i id' h1
    rw [Option.map_eq_some_iff] at h
    obtain ⟨e', h2, h3⟩ := h
    injection h3 with h3 h4; subst h3 h4
    exact ⟨h1, h2⟩
  · cases h

theorem x_idx (f : α → List D) {t : TypeId} {x i : Operand} {l : List α} {n : Int} {y : α} (h : at? l n = some y)
    (hc : (slB Γ t, evL st x, evI st i, (slT Γ t).sz) = (true, some (l.map f), some n, (f y).length) := by kernel_rfl) : aeff Γ base (.indexAddr t x i) st = some ⟨.c (.cp (f y)), [], [], []⟩ := by
  injection hc with h1 hc; injection hc with h2 hc; injection hc with h3 h4
  obtain ⟨ti, a1, a2, a3⟩ := slB_spec h1
  obtain ⟨k, a4⟩ := evI_spec h3
  exact eff_indexAddr a1 a2 a3 (evL_spec h2) a4 h (by simp [h4])
theorem x_idxO (f : α → List D) (id : Nat) {t : TypeId} {x i : Operand} {l : List α} {n : Int} {y : α} (h : at? l n = some y)
    (hc : (slB Γ t, evO st x, evI st i) = (true, some (id, ⟨slE Γ t, (slT Γ t).sz, l.map f⟩), some n) := by kernel_rfl) : aeff Γ base (.indexAddr t x i) st = some ⟨.c (.ep id n.toNat 0), [], [], [id]⟩ := by
  injection hc with h1 hc; injection hc with h2 h3
  obtain ⟨ti, a1, a2, a3⟩ := slB_spec h1
  obtain ⟨k, a4⟩ := evI_spec h3
  obtain ⟨a5, a6⟩ := evO_spec h2
  exact eff_indexAddrO a1 a2 a3 a5 a6 a4 h
theorem x_idxS {t : TypeId} {x i : Operand} {l : List UInt8} {n : Int} {y : UInt8} (h : at? l n = some y)
    (hc : (strB Γ t, evS st x, evI st i) = (true, some l, some n) := by kernel_rfl) : aeff Γ base (.index t x i) st = some ⟨.int .u8 y.toNat, [], [], []⟩ := by
  injection hc with h1 hc; injection hc with h2 h3
  obtain ⟨ti, a1, a2⟩ := strB_spec h1
  obtain ⟨k, a4⟩ := evI_spec h3
  exact eff_indexS a1 a2 (evS_spec h2) a4 h

theorem x_sliceS {t : TypeId} {x : Operand} {lo hi : Option Operand} {l r : List UInt8} {a b : Int} (h : sub? l a b = some r)
    (hc : (strB Γ t, evS st x, aeff.bnd st lo 0, aeff.bnd st hi (l.length : Nat)) = (true, some l, some a, some b) := by kernel_rfl) : aeff Γ base (.slice t x lo hi none) st = some ⟨.c (.d (.str r)), [], [], []⟩ := by
  injection hc with h1 hc; injection hc with h2 hc; injection hc with h3 h4
  obtain ⟨ti, a1, a2⟩ := strB_spec h1
  exact eff_sliceS a1 a2 (evS_spec h2) h3 h4 h
theorem x_slice (f : α → List D) {t : TypeId} {x : Operand} {lo : Option Operand} {hi : Operand} {l r : List α} {a b : Int} (h : sub? l a b = some r)
    (hc : (slB Γ t, evL st x, aeff.bnd st lo 0, evI st hi) = (true, some (l.map f), some a, some b) := by kernel_rfl) (hs : ∀ y, (f y).length = (slT Γ t).sz := by intro _; kernel_rfl) :
    aeff Γ base (.slice t x lo (some hi) none) st = some ⟨.c (.d (.lst (r.map f))), [], [], []⟩ := by
  injection hc with h1 hc; injection hc with h2 hc; injection hc with h3 h4
  obtain ⟨ti, a1, a2, a3⟩ := slB_spec h1
  obtain ⟨k, a4⟩ := evI_spec h4
  exact eff_slice a1 a2 a3 (evL_spec h2) h3 (by simp only [aeff.bnd, a4]) h hs
theorem x_sliceN (f : α → List D) {t : TypeId} {x : Operand} {lo : Option Operand} {l r : List α} {a : Int} (h : sub? l a (l.length : Int) = some r)
    (hc : (slB Γ t, evL st x, aeff.bnd st lo 0) = (true, some (l.map f), some a) := by kernel_rfl) (hs : ∀ y, (f y).length = (slT Γ t).sz := by intro _; kernel_rfl) :
    aeff Γ base (.slice t x lo none none) st = some ⟨.c (.d (.lst (r.map f))), [], [], []⟩ := by
  injection hc with h1 hc; injection hc with h2 h3
  obtain ⟨ti, a1, a2, a3⟩ := slB_spec h1
  exact eff_slice a1 a2 a3 (evL_spec h2) h3 (congrArg (fun n : Nat => some (n : Int)) (List.length_map _)) h hs

def apB (Γ : Types) (t : TypeId) : Bool := slB Γ t && Nat.blt 0 (slT Γ t).sz && Nat.ble (slT Γ t).bytes 1024 && Nat.blt 0 (slT Γ t).bytes
theorem apB_spec {t : TypeId} (h : apB Γ t = true) : slB Γ t = true ∧ 0 < (slT Γ t).sz ∧ (slT Γ t).bytes ≤ 1024 ∧ 0 < (slT Γ t).bytes := by
  simp only [apB, Bool.and_eq_true, Nat.blt_eq, Nat.ble_eq] at h
  exact ⟨h.1.1.1, h.1.1.2, h.1.2, h.2⟩
def apY (st : St) (y : Operand) : Option (List (List D)) := ((st.ev y).bind st.elems).map Prod.fst
def apU (st : St) (y : Operand) : List Nat := (((st.ev y).bind st.elems).map Prod.snd).getD []
theorem apY_spec {y : Operand} {ys : List (List D)} (h : apY st y = some ys) : ∃ tv, st.ev y = some tv ∧ st.elems tv = some (ys, apU st y) := by
  unfold apU
  unfold apY at h
  cases h1 : st.ev y with
  | none => simp [h1] at h
  | some tv =>
    refine ⟨tv, rfl, ?_⟩
    simp only [h1, Option.bind_some, Option.map_eq_some_iff] at h ⊢
    obtain ⟨⟨a, b⟩, h2, rfl⟩ := h
    rw [h2]; rfl
def evN (st : St) (x : Operand) : Bool := match st.ev x with
  | some (.v (.one .nil)) => true
  | _ => false
theorem evN_spec {x : Operand} (h : evN st x = true) : st.ev x = some (.c .nil) := by
  unfold evN at h
  split at h
  · assumption
  · cases h
theorem x_appN (f : α → List D) (ys : List α) {t : TypeId} {x y : Operand} (hl : Nat.ble ys.length LIM = true) (hc : (apB Γ t, evN st x, apY st y) = (true, true, some (ys.map f)) := by kernel_rfl)
    (hs : ∀ y, (f y).length = (slT Γ t).sz := by intro _; kernel_rfl) :
    aeff Γ base (.call ⟨.builtin .append, ⟨[x, y]⟩, ⟨[t, t]⟩⟩) st = some ⟨.c (.own base none), [(base, some ⟨slE Γ t, (slT Γ t).sz, ys.map f⟩)], [], base :: apU st y⟩ := by
  injection hc with h1 hc; injection hc with h2 h3
  obtain ⟨a0, a1⟩ := apB_spec h1
  obtain ⟨ti, b1, b2, b3⟩ := slB_spec a0
  obtain ⟨tv, c1, c2⟩ := apY_spec h3
  exact eff_appendN b1 b2 b3 (evN_spec h2) c1 c2 hs a1 hl
theorem x_app (f : α → List D) (id : Nat) {l ys : List α} {t : TypeId} {x y : Operand} (hl : Nat.ble (l.length + ys.length) LIM = true)
    (hc : (apB Γ t, evO st x, apY st y) = (true, some (id, ⟨slE Γ t, (slT Γ t).sz, l.map f⟩), some (ys.map f)) := by kernel_rfl) (hs : ∀ y, (f y).length = (slT Γ t).sz := by intro _; kernel_rfl) :
    aeff Γ base (.call ⟨.builtin .append, ⟨[x, y]⟩, ⟨[t, t]⟩⟩) st = some ⟨.c (.own base none), [(id, none), (base, some ⟨slE Γ t, (slT Γ t).sz, (l ++ ys).map f⟩)], [], base :: id :: apU st y⟩ := by
  injection hc with h1 hc; injection hc with h2 h3
  obtain ⟨a0, a1⟩ := apB_spec h1
  obtain ⟨ti, b1, b2, b3⟩ := slB_spec a0
  obtain ⟨tv, c1, c2⟩ := apY_spec h3
  obtain ⟨d1, d2⟩ := evO_spec h2
  exact eff_append b1 b2 b3 d1 d2 c1 c2 hs a1 hl

def divE (q : Bool) (st : St) (x y : Operand) : Eff := match st.ev x, st.ev y with
  | some (.v (.one (.d (.int k a)))), some (.v (.one (.d (.int _ b)))) => ⟨.int k (bif q then k.wrap (a.tdiv b) else a.tmod b), [], [], []⟩
  | _, _ => ⟨.undef, [], [], []⟩
def divC (Γ : Types) (t : TypeId) (st : St) (x y : Operand) : Option Int := match Γ.lookup t, st.ev x, st.ev y with
  | some _, some (.v (.one (.d (.int k a)))), some (.v (.one (.d (.int k' b)))) => if k = k' then some b else none
  | _, _, _ => none
theorem x_div (q : Bool) {t t' : TypeId} {x y : Operand} {b : Int} (h : (!(b == 0)) = true) (hc : divC Γ t st x y = some b := by kernel_rfl) :
    aeff Γ base (.binOp (bif q then .quo else .rem) t x y t') st = some (divE q st x y) := by
  unfold divC at hc
  unfold divE
  split at hc
  · rename_i ti k a k' b' h1 h2 h3
    split at hc
    · rename_i hk
      subst hk
      injection hc with hc; subst hc
      have hb := notB h
      rw [h2, h3]
      cases q
      · exact eff_rem h1 h2 h3 hb
      · exact eff_quo h1 h2 h3 hb
    · cases hc
  · cases hc
theorem x_quo {t t' : TypeId} {x y : Operand} {b : Int} (h : (!(b == 0)) = true) (hc : divC Γ t st x y = some b := by kernel_rfl) :
    aeff Γ base (.binOp .quo t x y t') st = some (divE true st x y) := x_div true h hc
theorem x_rem {t t' : TypeId} {x y : Operand} {b : Int} (h : (!(b == 0)) = true) (hc : divC Γ t st x y = some b := by kernel_rfl) :
    aeff Γ base (.binOp .rem t x y t') st = some (divE false st x y) := x_div false h hc

def shE (q : Bool) (st : St) (x y : Operand) : Eff := match st.ev x, st.ev y with
  | some (.v (.one (.d (.int k a)))), some (.v (.one (.d (.int _ b)))) => ⟨.int k (bif q then ishl k a b else ishr k a b), [], [], []⟩
  | _, _ => ⟨.undef, [], [], []⟩
def shC (Γ : Types) (t : TypeId) (st : St) (x y : Operand) : Option Int := match Γ.lookup t, st.ev x, st.ev y with
  | some _, some (.v (.one (.d (.int k a)))), some (.v (.one (.d (.int k' b)))) => some b
  | _, _, _ => none
theorem x_sh (q : Bool) {t t' : TypeId} {x y : Operand} {b : Int} (h : decide (0 ≤ b) = true) (hc : shC Γ t st x y = some b := by kernel_rfl) :
    aeff Γ base (.binOp (bif q then .shl else .shr) t x y t') st = some (shE q st x y) := by
  unfold shC at hc
  unfold shE
  split at hc
  · rename_i ti k a k' b' h1 h2 h3
    injection hc with hc; subst hc
    have hb : ¬ b' < 0 := by have := of_decide_eq_true h; omega
    rw [h2, h3]
    cases q <;> simp [aeff, h1, h2, h3, abinC, abin, hb, Cell.refs]
  · cases hc
theorem x_shl {t t' : TypeId} {x y : Operand} {b : Int} (h : decide (0 ≤ b) = true) (hc : shC Γ t st x y = some b := by kernel_rfl) :
    aeff Γ base (.binOp .shl t x y t') st = some (shE true st x y) := x_sh true h hc
theorem x_shr {t t' : TypeId} {x y : Operand} {b : Int} (h : decide (0 ≤ b) = true) (hc : shC Γ t st x y = some b := by kernel_rfl) :
    aeff Γ base (.binOp .shr t x y t') st = some (shE false st x y) := x_sh false h hc
theorem x_cat {t t' : TypeId} {x y : Operand} {a b : List UInt8} (h : Nat.ble (a.length + b.length) LIM = true) (hc : ((Γ.lookup t).isSome, evS st x, evS st y) = (true, some a, some b) := by kernel_rfl) :
    aeff Γ base (.binOp .add t x y t') st = some ⟨.c (.d (.str (a ++ b))), [], [], []⟩ := by
  injection hc with h1 hc; injection hc with h2 h3
  obtain ⟨ti, h4⟩ := Option.isSome_iff_exists.1 h1
  exact eff_concat h4 (evS_spec h2) (evS_spec h3) h

/-! ### Elements of slices of one's own -/
def epC (st : St) (x : Operand) : Option (Nat × Nat × Nat × OwnB) := match st.ev x with
  | some (.v (.one (.ep id i off))) => (st.own id).map fun e => (id, i, off, e)
  | _ => none
theorem epC_spec {x : Operand} {id i off : Nat} {e : OwnB} (h : epC st x = some (id, i, off, e)) : st.ev x = some (.c (.ep id i off)) ∧ st.own id = some e := by
  unfold epC at h
  split at h
  · rename_i h1
    rw [Option.map_eq_some_iff] at h
    obtain ⟨e', h2, h3⟩ := h
    injection h3 with h3 h4; injection h4 with h4 h5; injection h5 with h5 h6
    subst h3 h4 h5 h6
    exact ⟨h1, h2⟩
  · cases h
def epP (st : St) (x : Operand) : Nat × Nat × Nat × OwnB := (epC st x).getD (0, 0, 0, ⟨0, 0, []⟩)
def tyD (Γ : Types) (t : TypeId) : TI := (Γ.lookup t).getD ⟨0, 0, [], false, .other⟩
def ldV (Γ : Types) (t : TypeId) (off : Nat) (ds : List D) : Option TV :=
  bif Nat.ble (off + (tyD Γ t).sz) ds.length then mkT (tyD Γ t).agg (((ds.drop off).take (tyD Γ t).sz).map .d) else none
theorem x_ldE (f : α → List D) {t : TypeId} {x : Operand} {n : Int} {l : List α} {y : α} (h : at? l n = some y)
    (hc : ((Γ.lookup t).isSome, (epC st x).isSome, (epP st x).2.1, (epP st x).2.2.2.xs, (ldV Γ t (epP st x).2.2.1 (f y)).isSome) = (true, true, n.toNat, l.map f, true) := by kernel_rfl) :
    aeff Γ base (.load t x) st = some ⟨(ldV Γ t (epP st x).2.2.1 (f y)).getD .undef, [], [], [(epP st x).1]⟩ := by
  injection hc with h1 hc; injection hc with h2 hc; injection hc with h3 hc; injection hc with h4 h5
  obtain ⟨ti, a1⟩ := Option.isSome_iff_exists.1 h1
  obtain ⟨⟨id, i, off, et, sz, xs⟩, a2⟩ := Option.isSome_iff_exists.1 h2
  obtain ⟨v, a3⟩ := Option.isSome_iff_exists.1 h5
  obtain ⟨b1, b2⟩ := epC_spec a2
  have e : tyD Γ t = ti := by unfold tyD; rw [a1]; rfl
  have e2 : epP st x = (id, i, off, ⟨et, sz, xs⟩) := by unfold epP; rw [a2]; rfl
  rw [a3]
  rw [e2] at h3 h4 a3 ⊢
  simp only at h3 h4 a3
  subst h3 h4
  unfold ldV at a3
  rw [e] at a3
  exact eff_loadE a1 b1 b2 h a3
def stN (Γ : Types) (t : TypeId) (st : St) (u : Operand) (off : Nat) (ds : List D) : Option (List D) := match st.ev u with
  | some (.v tv) => match toDs tv.cells with
    | some vs => bif vs.length == (tyD Γ t).sz && Nat.ble (off + (tyD Γ t).sz) ds.length then some (ds.take off ++ vs ++ ds.drop (off + (tyD Γ t).sz)) else none
    | none => none
  | _ => none
theorem x_stE (f : α → List D) (z : α) {t : TypeId} {x u : Operand} {n : Int} {l : List α} {y : α} (h : at? l n = some y)
    (hc : ((Γ.lookup t).isSome, (epC st x).isSome, (epP st x).2.1, (epP st x).2.2.2.xs, stN Γ t st u (epP st x).2.2.1 (f y)) = (true, true, n.toNat, l.map f, some (f z)) := by kernel_rfl) :
    aeff Γ base (.store t x u) st = some ⟨.undef, [((epP st x).1, some ⟨(epP st x).2.2.2.et, (epP st x).2.2.2.sz, (l.set n.toNat z).map f⟩)], [], [(epP st x).1]⟩ := by
  injection hc with h1 hc; injection hc with h2 hc; injection hc with h3 hc; injection hc with h4 h5
  obtain ⟨ti, a1⟩ := Option.isSome_iff_exists.1 h1
  obtain ⟨⟨id, i, off, et, sz, xs⟩, a2⟩ := Option.isSome_iff_exists.1 h2
  obtain ⟨b1, b2⟩ := epC_spec a2
  have e : tyD Γ t = ti := by unfold tyD; rw [a1]; rfl
  have e2 : epP st x = (id, i, off, ⟨et, sz, xs⟩) := by unfold epP; rw [a2]; rfl
  rw [e2] at h3 h4 h5 ⊢
  simp only at h3 h4 h5 ⊢
  subst h3 h4
  unfold stN at h5
  split at h5
  · rename_i tv hu
    split at h5
    · rename_i vs hv
      rw [e] at h5
      cases hb : (vs.length == ti.sz && Nat.ble (off + ti.sz) (f y).length) with
      | false => rw [hb] at h5; cases h5
      | true =>
        rw [hb] at h5
        have h6 : (f y).take off ++ vs ++ (f y).drop (off + ti.sz) = f z := by injection h5
        exact eff_storeE a1 b1 b2 h hu hv hb h6.symm
    · cases h5
  · cases h5
end
end Go.Eng
