/-
Functions of Go's library by contracts that speak of the model's calls: what a call of plain values answers.
-/
import Derived.Test.YtnnadlpfbfajdaaGreatDoorEng2
import Derived.Below
import Derived.Lib.LaidTab
import Derived.Lib.AppendIntMem
import Derived.WalkSmall
namespace Go.Eng
open Go Go.RowKit
set_option linter.unusedVariables false
set_option linter.unusedSimpArgs false

theorem Fr.below {w0 w w' : World} {Wr : Nat → Prop} (h : Fr w0 Wr w) (hb : Below w.heap.size w w') : Fr w0 Wr w' :=
  ⟨hb.os.trans h.os, hb.tape.trans h.tape, hb.output.trans h.output, Nat.le_trans h.size hb.size, fun b h1 h2 => (hb.block b (Nat.lt_of_lt_of_le h1 h.size)).trans (h.block b h1 h2), fun b arr et k h0 => by
    obtain ⟨a1, k1, q1, q2⟩ := h.sz b arr et k h0
    exact ⟨a1, k1, (hb.block b (Array.getElem?_eq_some_iff.1 q1).1).trans q1, q2⟩⟩
section
variable {B : Base} {C : Nat → Option Nat} {st : St} {w w' : World}
/-- More memory behind the heap's end. -/
theorem Mm.grow (h : Mm B C st w) (hb : Below w.heap.size w w') : Mm B C st w' := by
  have hw : ∀ b, okOf B st C w b → w'.heap[b]? = w.heap[b]? := fun b h1 => hb.block b h1.1
  have hok : ∀ b, okOf B st C w b → okOf B st C w' b := fun b h1 => ⟨Nat.lt_of_lt_of_le h1.1 hb.size, h1.2⟩
  have hl : ∀ {id b}, Live st id → C id = some b → w'.heap[b]? = w.heap[b]? := fun h1 h2 => hb.block _ (h.block_lt h1 h2)
  refine ⟨fun id e he => ?_, fun id cs he => ?_, h.excl, h.inj, h.wr, h.anc, h.fr.below hb, h.nb, h.badlt⟩
  · exact (h.own id e he).mono rfl (fun b hc => hl (.inl (by rw [he]; simp)) hc) hw hok
  · refine (h.box id cs he).imp rfl (fun b hc => hl (.inr (by rw [he]; simp)) hc) fun c _ u hu => hu.mono hw hok (fun _ _ => rfl) fun id' _ e' he' => ⟨e', he', rfl, rfl, rfl, fun b arr hc h1 => ⟨arr, (hb.block b (Array.getElem?_eq_some_iff.1 h1).1).trans h1, rfl⟩⟩
theorem Mm.tabs (h : Mm B C st w) {g : Nat} {cs : List (IntKind × Int)} (hg : tab g = some cs) : TabAt w g cs := by
  obtain ⟨t2, t3, t4⟩ := h.badlt.tab g cs hg
  exact t4.imp fun et t => t.imp fun fr t => (h.fr.block g t4.lt t3).trans t
end

/-- The value of plain data. -/
def D.val : D → Value
  | .int k n => .int k n
  | .bool b => .bool b
  | .str s => .string ⟨s.toArray⟩
  | .lst _ => .slice none 0 0
def D.flat : D → Bool
  | .lst _ => false
  | _ => true
theorem D.rep_val {x : D} (h : x.flat = true) {w : World} {ok : Nat → Prop} {v : Value} (hv : DRep w ok x v) : v = x.val := by
  cases x with
  | lst xs => cases h
  | _ => cases hv; rfl
theorem D.val_rep {x : D} (h : x.flat = true) (w : World) (ok : Nat → Prop) : DRep w ok x x.val := by
  cases x with
  | lst xs => cases h
  | int k n => exact .int k n
  | bool b => exact .bool b
  | str s => exact .str s
def T1.val : T1 → Value
  | .one (.d x) => x.val
  | _ => .nilIface
def TV.val : TV → Value
  | .v x => x.val
  | .tup xs => .tuple (xs.map T1.val).toArray
def T1.flat : T1 → Bool
  | .one (.d x) => x.flat
  | _ => false
def TV.flatB : TV → Bool
  | .v x => x.flat
  | .tup xs => xs.all T1.flat
theorem T1.val_rep {x : T1} (h : x.flat = true) {m : Mem} {B : Base} {C : Nat → Option Nat} {w : World} : T1Rep (m.rep B C w) x x.val := by
  cases x with
  | agg cs => cases h
  | one c => cases c with
    | d x => exact D.val_rep h _ _
    | _ => cases h
theorem TV.val_rep {x : TV} (h : x.flatB = true) {m : Mem} {B : Base} {C : Nat → Option Nat} {w : World} : TRep (m.rep B C w) x x.val := by
  cases x with
  | v x => exact T1.val_rep h
  | tup xs =>
    refine ⟨(xs.map T1.val).toArray, rfl, by simp, fun j y hj => ⟨y.val, by simp [hj], T1.val_rep ?_⟩⟩
    exact List.all_eq_true.1 h y (List.mem_of_getElem? hj)

/-- A function of Go's library that answers plain values with a plain value, and writes nothing that was there. -/
theorem holds_lib {P : Program} {f : FuncId} {args : List D} {tv : TV} (hE : Enters P f) (ha : args.all D.flat = true) (hf : tv.flatB = true)
    (h : ∀ w : World, (∀ g cs, tab g = some cs → TabAt w g cs) → Calls P f (args.map D.val).toArray w fun e w' => e = .returned tv.val ∧ Below w.heap.size w w') :
    Holds P f (args.map fun x => TV.c (.d x)) ⟨[], []⟩ (fun t m => t = tv ∧ m = ⟨[], []⟩) := by
  refine ⟨hE, fun C w bad vs hm hs hv => ?_⟩
  have e : vs = (args.map D.val).toArray := by
    apply Array.ext
    · simpa using hs
    · intro j h1 h2
      have hj : j < args.length := by simpa using h2
      obtain ⟨v, g1, g2⟩ := hv j (TV.c (.d args[j])) (by simp [hj])
      have g3 : v = args[j].val := D.rep_val (List.all_eq_true.1 ha _ (List.getElem_mem _)) (show DRep w _ args[j] v from g2)
      rw [Array.getElem?_eq_getElem h1] at g1
      simp only [Option.some.injEq] at g1
      rw [g1, g3]
      simp
  subst e
  refine (h w fun g cs hg => hm.tabs hg).mono ?_
  rintro e w' ⟨rfl, hb⟩
  exact ⟨tv.val, tv, ⟨[], []⟩, C, rfl, ⟨rfl, rfl⟩, hm.grow hb, TV.val_rep hf⟩
/-- A table as the kit's contracts ask for it. -/
theorem tab_is {P : Program} {w : World} {name : String} {k : IntKind} {zs : List Int} {g : Nat} {cs : List (IntKind × Int)} (hg : P.globalNamed name = some g) (h : TabAt w g cs) (he : cs = zs.map fun z => (k, z)) :
    Lib.TabIs P w name k zs := by
  obtain ⟨et, fr, h⟩ := h
  subst he
  unfold Lib.TabIs World.var?
  rw [hg]
  simp only [Option.bind_some, h, List.map_map]
  rfl
end Go.Eng
