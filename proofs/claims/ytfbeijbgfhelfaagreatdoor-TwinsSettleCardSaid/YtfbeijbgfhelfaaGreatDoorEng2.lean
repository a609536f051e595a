/-
More operations: interfaces that are nil, counting a byte, a string as bytes.
-/
import Derived.Test.YtfbeijbgfhelfaaGreatDoorEng1
import Derived.Laws.IdiomStrings
import Derived.Lib.Bytealg
namespace Go.Eng
open Go
set_option linter.unusedVariables false
set_option linter.unusedSimpArgs false

section
variable {P : Program} {Γ : Types} {B : Base} {N : Nat → Prop} {nt : Nat} {C : Nat → Option Nat} {st : St} {a : Act} {w : World} {o : Oper} {base : Nat} {e : Eff} {ops : Array Oper} {U : List Nat} {V : St → Prop}

/-! ### An interface that is nil -/
def isIface (P : Program) (t : TypeId) : Bool := match P.underlying t with
  | some (.interface _) => true
  | _ => false
/-! ### How often a byte is there -/
theorem does_count {g : FuncId} {fn : Func} {args : Array Operand} {tys : Array TypeId} {a : List UInt8} {c : Int} (ho : o.op = .call ⟨.value (.func g), args, tys⟩) (hf : P.funcs[g]? = some fn)
    (hn : (fn.name == "runtime.NumGoroutine") = false) (hb : fn.body.isNone = true) (hx : Extern.findNext fn = none) (he : Extern.find fn = some Extern.BytealgCount.count) (ha : st.evs args.toList = some [.c (.d (.str a)), .int .u8 c]) :
    Does P o base st ⟨.i (countB a c.toNat.toUInt8), [], [], []⟩ := by
  refine does_ext ho hf hn hb hx he ha rfl fun w ok C own vs hs hv => ?_
  obtain ⟨x, hx1, hx2⟩ := hv 0 _ rfl
  obtain ⟨y, hy1, hy2⟩ := hv 1 _ rfl
  rw [arr2 hs hx1 hy1, str_get hx2, int_get hy2]
  refine ⟨_, Lib.run_countString _ _ w, ?_⟩
  exact DRep.int .i64 _

/-! ### A string as bytes -/
theorem Moves.new_data {o : Obj} {w' : World} (h : Mm B C st w) (hn : New1 w o w') : Moves B N C st w C st w' :=
  ⟨fun b hb => hn.old hb.1, fun b hb => ⟨by have := hb.1; simp [hn.heap]; omega, hb.2.1, hb.2.2⟩, fun _ _ => rfl,
   fun _ _ e' he => ⟨e', he, rfl, rfl, rfl, fun b arr _ h => ⟨arr, (hn.old ((Array.getElem?_eq_some_iff.1 h).1)).trans h, rfl⟩⟩⟩
theorem Mm.new_data {o : Obj} {w' : World} (h : Mm B C st w) (hr : Res N st) (hanc : ∀ id ∈ B.anc, ¬ N id) (hn : New1 w o w') : Mm B C st w' :=
  h.step hr (Moves.new_data (N := N) h hn) (h.fr.new1 hn) hanc
    (fun j e' he => .inl ⟨he, fun b hb => hn.old (h.block_lt (.inl (by rw [he]; simp)) hb)⟩)
    (fun j cs he => .inl ⟨he, fun b hb => hn.old (h.block_lt (.inr (by rw [he]; simp)) hb)⟩) h.excl h.inj h.wr h.nb

end

/-! ### The rules of a walk -/
section
variable {P : Program} {Γ : Types} {A nt : Nat} {ops : Array Oper} {base k : Nat} {o : Oper} {l : List Oper} {K : St → Prop} {st : St}
end
end Go.Eng
