/-
Maps of plain keys and values: reading and writing, in the form of the rules whose state is computed.
-/
import Derived.Test.YtnolfbkibkgolaaGreatDoorEng4
namespace Go.Eng
open Go
set_option linter.unusedVariables false
set_option linter.unusedSimpArgs false
set_option linter.unusedSectionVars false

section
variable {κ β : Type} [DecidableEq κ]
def encM (fk : κ → D) (fv : β → List D) (e : κ × β) : List D × List D := ([fk e.1], fv e.2)
/-- the key's datum tells keys apart -/
class KeyC (fk : κ → D) : Prop where
  tell : ∀ a b, keq1 (fk a) (fk b) = decide (a = b)
end
instance keyStr : KeyC D.str := ⟨fun a b => rfl⟩
instance keyInt (k : IntKind) : KeyC (D.int k) := ⟨fun a b => by
  show (k == k && a == b) = _
  rw [beq_self_eq_true, Bool.true_and]
  by_cases h : a = b <;> simp [h]⟩

section
variable {Γ : Types} {base : Nat} {st : St} {κ β : Type} [DecidableEq κ] {fk : κ → D} {fv : β → List D}
/-- what is asked of a lookup: the map's id, its entries, the key, the element's zero value, its kind -/
def mapC (Γ : Types) (t : TypeId) (st : St) (x y : Operand) : Option (Nat × List (List D × List D) × D × List D × Bool) := match Γ.lookup t, st.ev x, st.ev y with
  | some ⟨_, _, _, _, .map kt et⟩, some (.v (.one (.mapp id))), some (.v (.one (.d k))) => match st.box id, Γ.lookup kt, Γ.lookup et with
    | some [.mapc kk va es], some tk, some te => match toDs te.zero with
      | some z => if kindK tk.kind = some kk ∧ kk.fits [k] = true ∧ te.agg = va then some (id, es, k, z, te.agg) else none
      | none => none
    | _, _, _ => none
  | _, _, _ => none
def valT (agg : Bool) (ds : List D) : T1 := bif agg then .agg (ds.map .d) else .one (.d (ds.headD (.bool false)))
/-- what is asked of a write -/
def updC (Γ : Types) (t : TypeId) (st : St) (m x y : Operand) : Option (Nat × KK × Bool × List (List D × List D) × D × List D) := match Γ.lookup t, st.ev m, st.ev x, st.ev y with
  | some ⟨_, _, _, _, .map kt _⟩, some (.v (.one (.mapp id))), some (.v (.one (.d k))), some (.v v) => match st.box id, Γ.lookup kt with
    | some [.mapc kk va es], some tk => match toDs v.cells with
      | some vs => if kindK tk.kind = some kk ∧ kk.fits [k] = true ∧ v.isAgg = va then some (id, kk, va, es, k, vs) else none
      | none => none
    | _, _ => none
  | _, _, _, _ => none
/-- what is asked of a step through a string -/
def sitC (st : St) (x : Operand) : Option (Nat × List UInt8 × Nat) := match st.ev x with
  | some (.v (.one (.box id 0))) => match st.box id with
    | some [.iters s pos] => some (id, s, pos)
    | _ => none
  | _ => none
theorem sitC_spec {x : Operand} {id : Nat} {s : List UInt8} {pos : Nat} (h : sitC st x = some (id, s, pos)) : st.ev x = some (.v (.one (.box id 0))) ∧ st.box id = some [.iters s pos] := by
  unfold sitC at h
  split at h
  case h_2 => cases h
  rename_i id' hx
  split at h
  case h_2 => cases h
  rename_i s' p' hb
  injection h with h; injection h with h1 h; injection h with h2 h3
  subst h1 h2 h3
  exact ⟨hx, hb⟩
theorem x_next (id : Nat) (s : List UInt8) (pos : Nat) {x : Operand} {d : Nat × Nat} (h : decide (pos < s.length) = true) (hd : some (dec s pos) = some d) (hc : sitC st x = some (id, s, pos) := by kernel_rfl) :
    aeff Γ base (.next x true) st = some ⟨.tup [.one (.d (.bool true)), .one (.d (.int .i64 (pos : Nat))), .one (.d (.int .i32 (d.1 : Nat)))], [], [(id, some [.iters s (pos + d.2)])], [id]⟩ := by
  obtain ⟨h1, h2⟩ := sitC_spec hc
  obtain rfl := Option.some.inj hd
  simp only [aeff, h1, h2, of_decide_eq_true h, if_true]
theorem x_nextE (id : Nat) (s : List UInt8) (pos : Nat) {x : Operand} (h : decide (pos < s.length) = false) (hc : sitC st x = some (id, s, pos) := by kernel_rfl) :
    aeff Γ base (.next x true) st = some ⟨.tup [.one (.d (.bool false))], [], [], [id]⟩ := by
  obtain ⟨h1, h2⟩ := sitC_spec hc
  simp only [aeff, h1, h2, of_decide_eq_false h, if_false]
end
end Go.Eng
