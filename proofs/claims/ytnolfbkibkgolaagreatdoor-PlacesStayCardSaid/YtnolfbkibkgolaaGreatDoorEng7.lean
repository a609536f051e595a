/-
Ranges over maps: the map stays as it is while it is gone through; what comes next is anyone's choice.
-/
import Derived.Test.YtnolfbkibkgolaaGreatDoorEng6
namespace Go.Eng
open Go Go.MapKept
set_option linter.unusedVariables false
set_option linter.unusedSimpArgs false
set_option linter.unusedSectionVars false

section
variable {B : Base} {N : Nat → Prop} {nt : Nat} {C : Nat → Option Nat} {st : St} {a : Act} {w : World} {P : Program} {Γ : Types}

/-! ### The content of a box, said otherwise -/
/-! ### Steps without an operation -/
variable {A : Nat} {Q : AEx → St → Prop} {ops : Array Oper} {base k : Nat} {o : Oper} {l : List Oper} {K : St → Prop}
/-! ### Range -/
/-! ### What comes next -/
/-! ### The entry of this round -/
/-! ### The length of a map; what is taken out of one -/
def mdel (l : List (List D × List D)) (x : List D) : List (List D × List D) := l.filter fun e => !keq x e.1
end
end Go.Eng
