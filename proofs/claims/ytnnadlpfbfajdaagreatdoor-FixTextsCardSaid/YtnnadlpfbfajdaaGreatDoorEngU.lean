/-
More rules for printed proofs.
-/
import Derived.Test.YtnnadlpfbfajdaaGreatDoorEngT
namespace Go.Eng
open Go
set_option linter.unusedVariables false
set_option linter.unusedSimpArgs false

theorem notB {b : Bool} (h : (!b) = true) : b = false := by cases b <;> simp_all
theorem lookup_all {α : Type} {p : Nat × α → Bool} : ∀ {l : List (Nat × α)}, l.all p = true → ∀ {k : Nat} {v : α}, l.lookup k = some v → p (k, v) = true :=
  fun h _ _ hl => List.all_eq_true.1 h _ (mem_lookup hl)
theorem typesOk_of {P : Program} {Γ : Types} (h : (Γ.all fun p => TIok P p.1 p.2) = true) : TypesOk P Γ := ⟨fun t ti ht => lookup_all (p := fun p => TIok P p.1 p.2) h ht⟩

section
variable {P : Program} {Γ : Types} {A nt : Nat} {ops : Array Oper} {base : Nat} {o : Oper} {st : St} {α : Type} {f : α → List D} {ou : List (Nat × Option OwnB)} {bu : List (Nat × Option (List Cell))}

theorem out_intro {ρ : Type} {k : ρ → AEx} {S : ρ → St} {r : ρ} {ae : AEx} (h1 : ae = k r) (h2 : To A st (S r)) : Out A k S r ae st := ⟨h1, h2⟩
theorem opx_b {b c : Bool} (h : opX Γ nt ops base o st = some (.b b, ou, bu)) (hb : b = c) : opX Γ nt ops base o st = some (.b c, ou, bu) := by subst hb; exact h
theorem callb {b c : Bool} (hb : b = c) : ((TV.b b, ou, bu) : TV × List (Nat × Option OwnB) × List (Nat × Option (List Cell))) = (TV.b c, ou, bu) := by subst hb; rfl
theorem opx_len {l : List α} (h : opX Γ nt ops base o st = some (.i ((l.map f).length : Nat), ou, bu)) : opX Γ nt ops base o st = some (.i (l.length : Nat), ou, bu) := by rw [h, List.length_map]

theorem fin_intro {rs : List ResultVar} {xs : List T1} {rl : List (Nat × Nat)} {nl : List Nat} {m' : Mem} {tv : TV} {R : TV → Mem → Prop} (h1 : resT Γ st rs = some xs) (h2 : (rl.all fun p => Nat.ble A p.1) = true) (h3 : (nl.all fun k => Nat.ble A k) = true)
    (h4 : Sees (fun _ => True) st (rof rl) (nof nl) m') (h5 : TVSee (CellSee (fun _ => True) st (rof rl) (nof nl) m') (resV xs) tv) (h6 : R tv m') : Fin Γ A rs R st := ⟨xs, rl, nl, m', tv, h1, h2, h3, h4, h5, h6⟩

theorem at_own {l : List α} {n : Int} {x : α} (h : at? l n = some x) : 0 ≤ n ∧ n < l.length ∧ l[n.toNat]? = some x := by
  unfold at? at h
  split at h
  · rename_i hn
    have hx : n.toNat < l.length := (List.getElem?_eq_some_iff.1 h).1
    exact ⟨hn, by omega, h⟩
  · cases h

theorem eff_indexAddrO {t et : TypeId} {ti te : TI} {x i : Operand} {id : Nat} {l : List α} {k : IntKind} {n : Int} {y : α} (ht : Γ.lookup t = some ti) (hk : ti.kind = .slice et) (he : Γ.lookup et = some te)
    (hx : st.ev x = some (.c (.own id none))) (ho : st.own id = some ⟨et, te.sz, l.map f⟩) (hi : st.ev i = some (.int k n)) (h : at? l n = some y) : aeff Γ base (.indexAddr t x i) st = some ⟨.c (.ep id n.toNat 0), [], [], [id]⟩ := by
  obtain ⟨s1, s2, s3, s4, s5⟩ := ti
  subst hk
  obtain ⟨h1, h2, _⟩ := at_own h
  simp only [aeff, ht, hx, hi, he, ownEt, ho, and_self, if_true]
  rw [if_pos ⟨h1, by simpa using h2⟩]
end
end Go.Eng
