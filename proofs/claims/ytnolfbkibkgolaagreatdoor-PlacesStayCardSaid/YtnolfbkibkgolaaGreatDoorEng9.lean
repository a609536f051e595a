/-
slices.Delete within a slice of one's own: a part is copied down in place, the rest is cleared, the beginning is left.
-/
import Derived.Test.YtnolfbkibkgolaaGreatDoorEng8
namespace Go.Eng
open Go Go.RowKit
set_option linter.unusedVariables false
set_option linter.unusedSimpArgs false

section
variable {P : Program} {Γ : Types} {o : Oper} {base : Nat} {st : St}

end

/-! ### What is left of a list -/
def delX {α : Type} (qs : List α) (i j : Int) : List α := qs.take i.toNat ++ (qs.drop j.toNat).take ((qs.length : Int).toNat - j.toNat) ++ qs.drop (i.toNat + ((qs.length : Int).toNat - j.toNat))
def delA {α : Type} (qs : List α) (i j : Int) : Int := ((i.toNat + ((qs.length : Int).toNat - j.toNat) : Nat) : Int)
def delY {α : Type} (qs : List α) (i j : Int) (y : α) : List α := (delX qs i j).take (delA qs i j).toNat ++ (List.replicate ((qs.length : Int).toNat - (delA qs i j).toNat) y ++ (delX qs i j).drop ((delA qs i j).toNat + ((qs.length : Int).toNat - (delA qs i j).toNat)))
section
variable {P : Program} {Γ : Types} {A nt : Nat} {ops : Array Oper} {base k : Nat} {o : Oper} {l : List Oper} {K : St → Prop} {st : St} {α : Type}
end
section
variable {P : Program} {Γ : Types} {A nt : Nat} {base k : Nat} {o : Oper} {os l : List Oper} {st st0 : St} {Q : AEx → St → Prop} {idd : Nat} {acc : List Rec} {W : List Nat} {α : Type}
end

section
variable {P : Program} {Γ : Types} {A nt : Nat} {ops : Array Oper} {base k : Nat} {o : Oper} {ol : List Oper} {K : St → Prop} {st : St}
variable {κ β : Type} [DecidableEq κ] {fk : κ → D} {fv : β → List D}
end

/-! ### Rules for short texts (compress.py writes them) -/
abbrev Cell.i (n : Int) : Cell := .d (.int .i64 n)
abbrev Cell.s (x : List UInt8) : Cell := .d (.str x)
abbrev Cell.t (x : Bool) : Cell := .d (.bool x)
abbrev Cell.l {α : Type} (f : α → List D) (xs : List α) : Cell := .d (.lst (List.map f xs))
def nrm {α : Type} : α → AEx := fun _ => .normal
section
variable {P : Program} {Γ : Types} {A nt : Nat} {st : St} {Q : AEx → St → Prop}
/-- a region of plain operations -/
theorem gR [hΓ : TOk P Γ] {id : Nat} {l : List Oper} (n : Nat) (h : Q .normal (((runO Γ nt ⟨l⟩ st.next n 0 l st).getD st).nx (st.next + 1000 * l.length)))
    (hr : ((runO Γ nt ⟨l⟩ st.next n 0 l st).isSome && (l.drop n).isEmpty) = true := by kernel_rfl) : Awp P A nt (.region id ⟨l⟩ false) Q st := by
  rw [Bool.and_eq_true] at hr
  exact awp_region (aR n (aE h hr.2) hr.1)
theorem sR [hΓ : TOk P Γ] {id : Nat} {l : List Oper} {y : Code} (n : Nat) (h : Awp P A nt y Q (((runO Γ nt ⟨l⟩ st.next n 0 l st).getD st).nx (st.next + 1000 * l.length)))
    (hr : ((runO Γ nt ⟨l⟩ st.next n 0 l st).isSome && (l.drop n).isEmpty) = true := by kernel_rfl) : Awp P A nt (.seq (.region id ⟨l⟩ false) y) Q st :=
  awp_seq (gR n h hr)
theorem tT {c : Operand} {x y : Code} {b : Bool} (hb : b = true) (h : Awp P A nt x Q st) (hc : st.ev c = some (.v (.one (.d (.bool b)))) := by kernel_rfl) : Awp P A nt (.cond c x y) Q st := awp_true hc hb h
theorem tF {c : Operand} {x y : Code} {b : Bool} (hb : b = false) (h : Awp P A nt y Q st) (hc : st.ev c = some (.v (.one (.d (.bool b)))) := by kernel_rfl) : Awp P A nt (.cond c x y) Q st := awp_false hc hb h
theorem hW [hΓ : TOk P Γ] {f : FuncId} {args : List TV} {m : Mem} {R : TV → Mem → Prop} (fn : Func) (nt A nx : Nat)
    (h : Awp P A nt (cB fn) (FinQ Γ A fn.results.toList R) (m.st (fun s => args.getD s .undef) nx))
    (hf : P.funcs[f]? = some fn := by kernel_rfl) (hn : (fn.name == "runtime.NumGoroutine") = false := by kernel_rfl) (hb : fn.body = some (cB fn) := by kernel_rfl) (he : fn.ntmps = nt := by kernel_rfl) (hnt : Nat.ble args.length nt = true := by kernel_rfl)
    (hA : ((m.box.all fun p => Nat.blt p.1 A) && m.own.all fun p => Nat.blt p.1 A) = true := by kernel_rfl) (hlow : lows A [] [] m (args.map fun x => (0, x)) nx = true := by kernel_rfl) (hlc : lowcB m nx = true := by kernel_rfl) : Holds P f args m R := by
  subst he
  exact holds_of_awp hΓ.ok hf hn hb hnt hA hlow (lowc_of hlc) h
end
end Go.Eng
