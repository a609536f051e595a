/-
Functions of Go's library by contracts that speak of the model's calls: what a call of plain values answers.
-/
import Derived.Test.YtnolfbkibkgolaaGreatDoorEng2
import Derived.Below
import Derived.Lib.LaidTab
import Derived.Lib.AppendIntMem
import Derived.WalkSmall
namespace Go.Eng
open Go Go.RowKit
set_option linter.unusedVariables false
set_option linter.unusedSimpArgs false

theorem Fr.below {w0 w w' : World} {Wr : Nat → Prop} (h : Fr w0 Wr w) (hb : Below w.heap.size w w') : Fr w0 Wr w' :=
  ⟨hb.os.trans h.os, hb.tape.trans h.tape, hb.output.trans h.output, Nat.le_trans h.size hb.size, fun b h1 h2 => (hb.block b (Nat.lt_of_lt_of_le h1 h.size)).trans (h.block b h1 h2), fun b arr et k h0 => by
    obtain ⟨a1, q1, q2⟩ := h.sz b arr et k h0
    exact ⟨a1, (hb.block b (Array.getElem?_eq_some_iff.1 q1).1).trans q1, q2⟩⟩
section
variable {B : Base} {C : Nat → Option Nat} {st : St} {w w' : World}
end

/-- The value of plain data. -/
def D.val : D → Value
  | .int k n => .int k n
  | .bool b => .bool b
  | .str s => .string ⟨s.toArray⟩
  | .lst _ => .slice none 0 0
def D.flat : D → Bool
  | .lst _ => false
  | _ => true
theorem D.val_rep {x : D} (h : x.flat = true) (w : World) (ok : Nat → Prop) : DRep w ok x x.val := by
  cases x with
  | lst xs => cases h
  | int k n => exact .int k n
  | bool b => exact .bool b
  | str s => exact .str s
def T1.val : T1 → Value
  | .one (.d x) => x.val
  | _ => .nilIface
def TV.val : TV → Value
  | .v x => x.val
  | .tup xs => .tuple (xs.map T1.val).toArray
def T1.flat : T1 → Bool
  | .one (.d x) => x.flat
  | _ => false
def TV.flatB : TV → Bool
  | .v x => x.flat
  | .tup xs => xs.all T1.flat
theorem T1.val_rep {x : T1} (h : x.flat = true) {m : Mem} {B : Base} {C : Nat → Option Nat} {w : World} : T1Rep (m.rep B C w) x x.val := by
  cases x with
  | agg cs => cases h
  | one c => cases c with
    | d x => exact D.val_rep h _ _
    | _ => cases h
theorem TV.val_rep {x : TV} (h : x.flatB = true) {m : Mem} {B : Base} {C : Nat → Option Nat} {w : World} : TRep (m.rep B C w) x x.val := by
  cases x with
  | v x => exact T1.val_rep h
  | tup xs =>
    refine ⟨(xs.map T1.val).toArray, rfl, by simp, fun j y hj => ⟨y.val, by simp [hj], T1.val_rep ?_⟩⟩
    exact List.all_eq_true.1 h y (List.mem_of_getElem? hj)

end Go.Eng
