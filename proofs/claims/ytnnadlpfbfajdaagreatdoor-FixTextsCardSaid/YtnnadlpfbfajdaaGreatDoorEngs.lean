/-
A builder's own functions at a program: what the kit's contracts say of them, turned for the bridge.
-/
import Derived.Test.YtnnadlpfbfajdaaGreatDoorEngb
import Derived.Shelf.Strings.Builder1
import Derived.Shelf.Strings.BuilderX
set_option linter.unusedVariables false
namespace Go.Proofs
open Go.Shelf Go.RowKit Go.Eng
variable {P : Program} {ρ : Ren}

theorem loose_below {w w' : World} {g : Nat} (h : Below w.heap.size w w') (hg : g < w.heap.size) : Loose w w' g :=
  ⟨h.os, h.tape, h.output, h.size, fun k hk _ => h.block k hk, fun arr et k0 h0 => ⟨k0, (h.block g hg).trans h0⟩⟩
theorem loose_freeze {w : World} {g n : Nat} (h0 : n ≠ 0) : Loose w (w.freeze ⟨g, 0, none⟩ n) g := by
  refine ⟨?_, ?_, ?_, ?_, fun k hk hne => ?_, fun arr et k0 hg => ?_⟩
  · simp [World.freeze, h0]
  · simp [World.freeze, h0]
  · simp [World.freeze, h0]
  · simp [World.freeze, h0]
  · simp only [World.freeze, h0, if_false, Array.getElem?_modify]
    rw [if_neg (fun e => hne e.symm)]
  · obtain ⟨lo, hi⟩ := k0
    have hlt : g < w.heap.size := (Array.getElem?_eq_some_iff.1 hg).1
    have hv : w.heap[g] = .cells arr et (lo, hi) := (Array.getElem?_eq_some_iff.1 hg).2
    simp only [World.freeze, h0, if_false]
    rw [Array.getElem?_eq_getElem (by simpa using hlt), Array.getElem_modify]
    simp [hv]
theorem loose_drew {w w' : World} {g : Nat} (h : Loose w.drew w' g) : Loose w w' g := ⟨h.os, h.tape, h.output, h.size, h.far, h.at_⟩

set_option maxHeartbeats 2000000 in
set_option maxRecDepth 100000 in
/-- A builder's string, told exactly: only the mark of its row is new. -/
theorem bstr_row (L : Lays.n169 P ρ) (X : Builder.Extra P ρ) (b g cap : Nat) (p : Value) (cur : Array Value) (l : List UInt8) (w : World) (hbk : w.heap[b]? = some (.cells #[p, .slice (some ⟨g, 0, none⟩) l.length cap] (ρ.t 72) (0, 0)))
    (hg : w.heap[g]? = some (.cells cur (ρ.t 5) (0, 0))) (hlc : l.length ≤ cap) (hcm : cap ≤ 9223372036854775807) (hcs : cur.size = cap) (hat : ∀ (j : Nat) (c : UInt8), l[j]? = some c → cur[j]? = some (.int .u8 c.toNat)) :
    Calls P (ρ.f 169) #[.pointer (some ⟨b, 0, none⟩)] w fun e w' => e = .returned (.string ⟨l.toArray⟩) ∧ Loose w w' g := by
  have hgl : g < w.heap.size := (Array.getElem?_eq_some_iff.1 hg).1
  by_cases h0 : l = []
  · subst h0
    by_cases hc0 : cap = 0
    · subst hc0
      exact (Any.Builder_String_noroom L X w.heap.size b g p cur w (Nat.le_refl _) hbk hg).mono fun e w' h => ⟨h.1, loose_below h.2 hgl⟩
    · exact (Any.Builder_String_room L X w.heap.size b g cap p w hc0 hbk).mono fun e w' h => ⟨h.1, loose_below h.2 hgl⟩
  · have hl0 : l.length ≠ 0 := by simpa using h0
    have c1 : w.drew.cell? ⟨b, 1, none⟩ = some (.slice (some ⟨g, 0, none⟩) l.length cap) := by
      have : w.drew.heap[b]? = some (.cells #[p, .slice (some ⟨g, 0, none⟩) l.length cap] (ρ.t 72) (0, 0)) := hbk
      rw [Lib.cell_of_heap this]; rfl
    have hSD : (Builtin.unsafeSliceData_ #[(ρ.t 37)] (ρ.t 127) #[.slice (some ⟨g, 0, none⟩) l.length cap]).run P w.drew = .ok (.pointer (some ⟨g, 0, none⟩)) w.drew :=
      Lib.run_unsafeSliceData_row _ _ _ _ _ _ (by omega)
    have hUS : (Builtin.unsafeString_ #[(ρ.t 127), (ρ.t 3)] (ρ.t 9) #[.pointer (some ⟨g, 0, none⟩), .int .i64 l.length]).run P w.drew = .ok (.string ⟨l.toArray⟩) (w.drew.freeze ⟨g, 0, none⟩ l.length) := by
      refine Lib.run_unsafeString_row w.drew (ρ.t 127) (ρ.t 3) (ρ.t 9) (ρ.t 5) L.t127 X.cellsByte g cur.size (by have hg' : w.drew.heap[g]? = some (.cells cur (ρ.t 5) (0, 0)) := hg; simp [World.shape?, hg']) l h0 (by omega) (by omega) ?_
      intro j x hx
      have hg' : w.drew.heap[g]? = some (.cells cur (ρ.t 5) (0, 0)) := hg
      have e : (⟨g, 0, none⟩ : Addr).add j = ⟨g, j, none⟩ := by unfold Addr.add; split <;> simp_all
      rw [e, Lib.cell_of_heap hg']
      exact hat j x hx
    have hfin : Loose w (w.drew.freeze ⟨g, 0, none⟩ l.length) g := loose_drew (loose_freeze (w := w.drew) hl0)
    have mixed := L.mixed
    have t72 := L.t72; have a72 := L.a72; have z72 := L.z72; have v72 := L.v72; have u72 := run_underlying L.t72
    have t70 := L.t70; have a70 := L.a70; have z70 := L.z70; have v70 := L.v70; have u70 := run_underlying L.t70
    have t37 := L.t37; have a37 := L.a37; have z37 := L.z37; have v37 := L.v37; have u37 := run_underlying L.t37
    have t127 := L.t127; have a127 := L.a127; have z127 := L.z127; have v127 := L.v127; have u127 := run_underlying L.t127
    have t3 := L.t3; have a3 := L.a3; have z3 := L.z3; have v3 := L.v3; have u3 := run_underlying L.t3
    have t9 := L.t9; have a9 := L.a9; have z9 := L.z9; have v9 := L.v9; have u9 := run_underlying L.t9
    have t5 := X.t5; have a5 := X.a5; have z5 := X.z5; have v5 := X.v5; have u5 := run_underlying X.t5
    go_enter L.f169, Body.n169_ntmps ρ
    go_wp2
    go_region_o
    all_goals (go_wp2; go_ret; exact ⟨rfl, hfin⟩)
theorem bstr_holds (L : Lays.n169 P ρ) (X : Builder.Extra P ρ) (hE : Eng.Enters P (ρ.f 169)) (s : List UInt8) {k j : Nat} : Holds P (ρ.f 169) [TV.c (.box k 0)] ⟨[(j, ⟨ρ.t 5, 1, (bytesD s).map (encI .u8)⟩)], [(k, [.selfp k (ρ.t 72), .own j none])]⟩
    (fun t m' => t = .c (.d (.str s)) ∧ m' = ⟨[], [(k, [.selfp k (ρ.t 72), .undef])]⟩) :=
  holds_bstr hE (fun b p w h => Any.Builder_String_nil L X _ b p w h) (fun b g cap p cur l w h1 h2 h3 h4 h5 h6 => bstr_row L X b g cap p cur l w h1 h2 h3 h4 h5 h6) s
end Go.Proofs
