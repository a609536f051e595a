/-
Ranges over maps, in the form of the rules whose state is computed; the loop whose order is open.
-/
import Derived.Test.YtnolfbkibkgolaaGreatDoorEng7
namespace Go.Eng
open Go
set_option linter.unusedVariables false
set_option linter.unusedSimpArgs false
set_option linter.unusedSectionVars false

section
variable {P : Program} {Γ : Types} {A nt : Nat} {ops : Array Oper} {base k : Nat} {o : Oper} {ol : List Oper} {K : St → Prop} {st : St}

section
variable {κ β : Type} [DecidableEq κ] {fk : κ → D} {fv : β → List D}
/-- what is asked of a map that is ranged over, or measured -/
def mapX (Γ : Types) (t : TypeId) (st : St) (x : Operand) : Option (Nat × KK × Bool × List (List D × List D)) := match Γ.lookup t, st.ev x with
  | some ⟨_, _, _, _, .map _ _⟩, some (.v (.one (.mapp id))) => match st.box id with
    | some [.mapc ka va es] => some (id, ka, va, es)
    | _ => none
  | _, _ => none
def delC (Γ : Types) (t : TypeId) (st : St) (m y : Operand) : Option (Nat × KK × Bool × List (List D × List D) × D) := match Γ.lookup t, st.ev m, st.ev y with
  | some ⟨_, _, _, _, .map kt _⟩, some (.v (.one (.mapp id))), some (.v (.one (.d k))) => match st.box id, Γ.lookup kt with
    | some [.mapc kk va es], some tk => if kindK tk.kind = some kk ∧ kk.fits [k] = true then some (id, kk, va, es, k) else none
    | _, _ => none
  | _, _, _ => none
end

/-! ### Range, next, entry -/
def iterX (st : St) (x : Operand) : Option (Nat × Nat × List (Nat × List D × List D) × Nat × List (List D × List D) × Option (Nat × List D × List D) × KK × Bool × List (Nat × List D × List D) × Nat) := match st.ev x with
  | some (.v (.one (.box idI 0))) => match st.box idI with
    | some [.iterc idM me cl rest cur] => match st.box idM with
      | some [.mapg ka va me' cl'] => some (idI, idM, me, cl, rest, cur, ka, va, me', cl')
      | _ => none
    | _ => none
  | _ => none
/-! ### The loop -/
variable {α σ ρ : Type} {Q : AEx → St → Prop}
def OutR (A : Nat) (k : ρ → AEx) (f : Option α → σ → Option (σ ⊕ ρ)) (H : List α → σ → St) (S : ρ → St) (l : List α) (s : σ) (ae : AEx) (st : St) : Prop :=
  (l = [] ∧ ∃ x, f none s = some x ∧ Out A (kk k) (SS (H []) S) x ae st) ∨ ∃ e l' x, l.Perm (e :: l') ∧ f (some e) s = some x ∧ Out A (kk k) (SS (H l') S) x ae st
end
end Go.Eng
