/-
From what a law's function does to the walk that a row asks.
-/
import Derived.Test.YtnnadlpfbfajdaaGreatDoorEngV
import Derived.Below
import Derived.OpenShut
namespace Go.Eng
open Go Go.RowKit
set_option linter.unusedVariables false
set_option linter.unusedSimpArgs false

theorem law_walk {P : Program} {f : FuncId}
    (hH : ∀ L : List Int, L.length ≤ 9223372036854775807 → (∀ n ∈ L, -9223372036854775808 ≤ n ∧ n ≤ 9223372036854775807) → Holds P f [.v (.one (.d (.lst (List.map (encI .i64) L))))] ⟨[], []⟩ (fun tv m => tv = .v (.one (.d (.bool true))) ∧ m = ⟨[], []⟩))
    (a : Option Addr) (len cap : Nat) (zs : List Int) (w : World)
    (ht : ∀ g cs, tab g = some cs → TabAt w g cs)
    (h : (a = none ∧ len = 0 ∧ cap = 0 ∧ zs = []) ∨ ∃ x, a = some x ∧ len ≤ cap ∧ cap ≤ maxLen ∧ zs.length = cap ∧ (∀ i, i < zs.length → w.cell? (x.add i) = some (.int .i64 (zs.getD i 0))) ∧ ∀ n ∈ zs, (Lit.int .i64 n).wf = true) :
    Calls P f #[.slice a len cap] w fun e w' => e = .returned (.bool true) ∧ Below w.heap.size w w' := by
  have hlen : (zs.take len).length = len := by
    rcases h with ⟨_, h1, _, h2⟩ | ⟨x, _, h1, _, h2, _⟩
    · subst h1 h2; rfl
    · rw [List.length_take]; omega
  have hle : len ≤ 9223372036854775807 := by
    rcases h with ⟨_, h1, _, h2⟩ | ⟨x, _, h1, h2, _⟩
    · omega
    · have : maxLen = 9223372036854775807 := by decide
      omega
  have hz : ∀ n ∈ zs.take len, -9223372036854775808 ≤ n ∧ n ≤ 9223372036854775807 := by
    intro n hn
    rcases h with ⟨_, h1, _, h2⟩ | ⟨x, _, _, _, _, _, h2⟩
    · subst h1 h2; cases hn
    · have := h2 n (List.mem_of_mem_take hn)
      have e1 : IntKind.min .i64 = -9223372036854775808 := by decide
      have e2 : IntKind.max .i64 = 9223372036854775807 := by decide
      simp only [Lit.wf, Bool.and_eq_true, decide_eq_true_eq] at this
      omega
  have hh := hH (zs.take len) (by rw [hlen]; exact hle) hz
  let m : Mem := ⟨[], []⟩
  have hmm : Mm (m.base w (fun _ => none) (fun _ => False)) (fun _ => none) m.s w := by
    refine ⟨fun id e he => ?_, fun id cs he => ?_, fun id => .inl rfl, fun id id' b hl => ?_, fun id b _ hb => ?_, fun id _ => rfl, Fr.refl _ _, fun id b _ hb => ?_, ⟨fun b hb => hb.elim, fun g cs hg => ⟨fun hb => hb, (by rintro ⟨k, hk, hb⟩; cases hb), ht g cs hg⟩⟩⟩
    · cases he
    · cases he
    · intro _ hb; cases hb
    · cases hb
    · cases hb
  refine (hh.2 (fun _ => none) w (fun _ => False) #[.slice a len cap] hmm rfl ?_).mono ?_
  · intro j tv hj
    cases j with
    | succ j => simp at hj
    | zero =>
      obtain rfl := Option.some.inj hj
      refine ⟨_, rfl, ?_⟩
      show DRep w (okOf (m.base w (fun _ => none) (fun _ => False)) m.s (fun _ => none) w) (.lst (List.map (encI .i64) (zs.take len))) (.slice a len cap)
      by_cases h0 : len = 0
      · subst h0; exact .lnil a cap
      · rcases h with ⟨_, h1, _⟩ | ⟨x, rfl, h1, h2, h3, h4, _⟩
        · exact absurd h1 h0
        · have hl : (List.map (encI .i64) (zs.take len)).length = len := by rw [List.length_map, hlen]
          have hcell : ∀ (i j : Nat) (cs : List D) (y : D), (List.map (encI .i64) (zs.take len))[i]? = some cs → cs[j]? = some y → i < len ∧ j = 0 ∧ y = .int .i64 (zs.getD i 0) := by
            intro i j cs y hi hj
            rw [List.getElem?_map, Option.map_eq_some_iff] at hi
            obtain ⟨n, hn, rfl⟩ := hi
            rw [List.getElem?_take] at hn
            split at hn
            · rename_i hil
              cases j with
              | zero =>
                simp [encI] at hj; subst hj
                exact ⟨hil, rfl, by rw [List.getD_eq_getElem?_getD, hn]; rfl⟩
              | succ j => simp [encI] at hj
            · cases hn
          have := DRep.lst (w := w) (ok := okOf (m.base w (fun _ => none) (fun _ => False)) m.s (fun _ => none) w) (List.map (encI .i64) (zs.take len)) x cap 1 (fun i _ => .int .i64 (zs.getD i 0)) (fun hn => h0 (by rw [← hl, hn]; rfl)) (by omega) ?_ ?_ ?_ ?_
          · rw [hl] at this; exact this
          · refine ⟨?_, fun hb => hb, fun id hl => ?_⟩
            · have hc := h4 0 (by omega)
              have e0 : x.add 0 = x := by simp [Addr.add]
              rw [e0] at hc
              unfold World.cell? at hc
              by_cases hb : x.block < w.heap.size
              · exact hb
              · rw [Array.getElem?_eq_none (by omega)] at hc
                simp at hc
            · rcases hl with hl | hl <;> exact absurd rfl hl
          · intro cs hcs
            obtain ⟨n, _, rfl⟩ := List.mem_map.1 hcs
            rfl
          · intro i j cs y hi hj
            obtain ⟨g1, g2, _⟩ := hcell i j cs y hi hj
            subst g2
            have := h4 i (by omega)
            simpa using this
          · intro i j cs y hi hj
            obtain ⟨_, _, rfl⟩ := hcell i j cs y hi hj
            exact .int _ _
  · rintro e w' ⟨v, tv, m', C', rfl, ⟨rfl, rfl⟩, hm', hv⟩
    have hv' : DRep w' (okOf (m.base w (fun _ => none) (fun _ => False)) (Mem.s ⟨[], []⟩) C' w') (.bool true) v := hv
    cases hv'
    refine ⟨rfl, hm'.fr.os, hm'.fr.tape, hm'.fr.output, hm'.fr.size, fun k hk => hm'.fr.block k hk ?_⟩
    rintro ⟨k, hk, hb⟩
    cases hb
end Go.Eng
