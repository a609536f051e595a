/-
Tables: from what a row says of package-level variables to the rows of cells; what the kit's contracts of unicode/utf8 ask of them.
-/
import Derived.Test.YtnnadlpfbfajdaaGreatDoorEng3
import Derived.Lib.LaidU8
namespace Go.Eng
open Go Go.RowKit
set_option linter.unusedVariables false
set_option linter.unusedSimpArgs false

theorem tab_var {P : Program} {w : World} {name : String} {g : Nat} {arr : Array Value} {l : List (IntKind × Int)} (hg : P.globalNamed name = some g) (hv : w.var? P name = some arr) (he : arr.toList = l.map fun p => Value.int p.1 p.2) : TabAt w g l := by
  unfold World.var? at hv
  rw [hg] at hv
  simp only [Option.bind_some] at hv
  split at hv
  · rename_i cs et fr h
    injection hv with hv
    subst hv
    refine ⟨et, fr, ?_⟩
    rw [h, ← he]
  · cases hv
theorem tab_ints {P : Program} {w : World} {name : String} {k : IntKind} {zs : List Int} {g : Nat} {t e : TypeId} {n : Nat} {l : List (IntKind × Int)} (h : Lib.VarReads P w name (Lib.tabData k zs)) (hg : P.globalNamed name = some g)
    (hty : (P.globals[g]?).map (·.type) = some t) (ht : P.underlying t = some (.array n e)) (he : P.underlying e = some (.int k)) (hce : P.cellsOf e = 1) (hct : P.cellsOf t = n) (hl : l = zs.map fun z => (k, z)) : TabAt w g l := by
  obtain ⟨g', t', cs, fuel, p, hg', hty', hv, hd⟩ := h
  obtain rfl := Option.some.inj (hg.symm.trans hg')
  obtain rfl := Option.some.inj (hty.symm.trans hty')
  have hcs := Lib.cells_of_tab ht he hce hct hd
  refine tab_var hg hv ?_
  rw [hcs, hl, List.map_map]
  rfl
def accTab : List (IntKind × Int) := (List.range 16).flatMap fun i => [(.u8, (Lib.accLo i : Int)), (.u8, (Lib.accHi i : Int))]
theorem trod_len {H : Type} {enc : TypeId × Value → H} {P : Program} {w : World} {base : Nat} {sp : Nat → Bool} {held : Bool} {fuel : Nat} {t e : TypeId} {n : Nat} {cs : List Value} {d : DataW H} {p : List MemPlace}
    (ht : P.underlying t = some (.array n e)) (h : DataW.trod enc P w base sp held fuel t cs = some (d, p)) : cs.length = P.cellsOf t := by
  cases fuel with
  | zero => simp [DataW.trod] at h
  | succ fuel =>
    simp only [DataW.trod, ht] at h
    split at h
    · rename_i hl; exact hl
    · cases h
theorem flat_pairs {α : Type} {a b : Nat → α} : ∀ {n : Nat} {cs : List α}, cs.length = n * 2 → (∀ i, i < n → (cs.drop (i * 2)).take 2 = [a i, b i]) → cs = (List.range n).flatMap fun i => [a i, b i]
  | 0, cs, hl, _ => by
    have : cs = [] := List.length_eq_zero_iff.1 (by omega)
    subst this; rfl
  | n + 1, cs, hl, h => by
    rw [List.range_succ, List.flatMap_append]
    have h1 := flat_pairs (n := n) (cs := cs.take (n * 2)) (by simp; omega) (fun i hi => by
      rw [← h i (by omega), List.drop_take, List.take_take]
      congr 1
      omega)
    rw [← h1]
    have h2 := h n (by omega)
    have h3 : (cs.drop (n * 2)).take 2 = cs.drop (n * 2) := List.take_of_length_le (by simp; omega)
    rw [h3] at h2
    simp only [List.flatMap_cons, List.flatMap_nil, List.append_nil]
    rw [← h2, List.take_append_drop]
theorem tab_accept {P : Program} {w : World} {g : Nat} {t e k : TypeId} {flds : Array Field} {l : List (IntKind × Int)} (h : Lib.VarReads P w "unicode/utf8.acceptRanges" Lib.acceptData) (hg : P.globalNamed "unicode/utf8.acceptRanges" = some g)
    (hty : (P.globals[g]?).map (·.type) = some t) (ht : P.underlying t = some (.array 16 e)) (he : P.underlying e = some (.struct flds)) (hf : flds.toList.map (fun f => (f.offset, f.type)) = [(0, k), (1, k)]) (hk : P.underlying k = some (.int .u8))
    (hck : P.cellsOf k = 1) (hce : P.cellsOf e = 2) (hct : P.cellsOf t = 32) (hl : l = accTab) : TabAt w g l := by
  obtain ⟨g', t', cs, fuel, p, hg', hty', hv, hd⟩ := h
  obtain rfl := Option.some.inj (hg.symm.trans hg')
  obtain rfl := Option.some.inj (hty.symm.trans hty')
  refine tab_var hg hv ?_
  have hlen := trod_len ht hd
  rw [show P.cellsOf t = 16 * 2 from hct] at hlen
  subst hl
  have hat : ∀ (j : Nat) (f : Field), flds[j]? = some f → (j = 0 ∨ j = 1) ∧ f.offset = j ∧ f.type = k := by
    intro j f hj
    have h1 : (flds.toList.map fun f => (f.offset, f.type))[j]? = some (f.offset, f.type) := by
      rw [List.getElem?_map, Array.getElem?_toList, hj]; rfl
    rw [hf] at h1
    match j, h1 with
    | 0, h1 => simp at h1; exact ⟨.inl rfl, h1.1.symm, h1.2.symm⟩
    | 1, h1 => simp at h1; exact ⟨.inr rfl, h1.1.symm, h1.2.symm⟩
    | j + 2, h1 => simp at h1
  have key := flat_pairs (a := fun i => Value.int .u8 (Lib.accLo i : Int)) (b := fun i => Value.int .u8 (Lib.accHi i : Int)) hlen (fun i hi => by
    obtain ⟨fuel', d, q, hdi, hes⟩ := Lib.array_elem ht hd i hi
    simp only [List.getElem?_map, List.getElem?_range hi, Option.map_some, Option.some.injEq] at hdi
    subst hdi
    rw [hce] at hes
    have hcs := Lib.ints_of_struct he (fun j f hj => by
      obtain ⟨_, h2, h3⟩ := hat j f hj
      rw [h3]
      exact ⟨hk, h2, hck⟩) (by rw [hce]; have := congrArg List.length hf; simpa using this.symm) hes
    simpa using hcs)
  rw [key]
  unfold accTab
  rw [List.map_flatMap]
  rfl
theorem utf8_tabs {w : World} {g3 g4 : Nat} {l3 l4 : List (IntKind × Int)} (h3 : TabAt w g3 l3) (h4 : TabAt w g4 l4)
    (e3 : ((List.range 256).all fun c => decide (l3[c]? = some (IntKind.u8, (Lib.firstT c : Int)))) = true)
    (e4 : ((List.range 16).all fun i => decide (l4[2 * i]? = some (IntKind.u8, (Lib.accLo i : Int))) && decide (l4[2 * i + 1]? = some (IntKind.u8, (Lib.accHi i : Int)))) = true) : Lib.Utf8Tabs g3 g4 w := by
  refine ⟨fun c hc => h3.cell ?_, fun i hi => ⟨h4.cell ?_, h4.cell ?_⟩⟩
  · simpa using List.all_eq_true.1 e3 c (List.mem_range.2 hc)
  · have := List.all_eq_true.1 e4 i (List.mem_range.2 hi)
    simp only [Bool.and_eq_true, decide_eq_true_eq] at this
    exact this.1
  · have := List.all_eq_true.1 e4 i (List.mem_range.2 hi)
    simp only [Bool.and_eq_true, decide_eq_true_eq] at this
    exact this.2
end Go.Eng
