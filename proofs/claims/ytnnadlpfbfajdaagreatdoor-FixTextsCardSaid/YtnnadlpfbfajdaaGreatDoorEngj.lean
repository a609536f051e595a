/-
strings.Join of a slice of one's own.
-/
import Derived.Test.YtnnadlpfbfajdaaGreatDoorEngs
import Derived.Shelf.Strings.OnBuilder
set_option linter.unusedVariables false
namespace Go.Eng
open Go Go.RowKit
theorem holds_join {P : Program} {f : FuncId} {et : TypeId} (hE : Enters P f)
    (hN : ∀ (c : Nat) (sep : ByteArray) (w : World), Calls P f #[.slice none 0 c, .string sep] w fun e w' => e = .returned (.string ⟨#[]⟩) ∧ w' = w)
    (hJ : ∀ (bk c : Nat) (xs : List ByteArray) (sep : ByteArray) (w : World), (∀ (j : Nat) (x : ByteArray), xs[j]? = some x → w.cell? ⟨bk, 0 + j, none⟩ = some (.string x)) → bk < w.heap.size → xs.length ≤ 140737488355328 → xs.length ≤ c →
      (Lib.join (xs.map (·.data.toList)) sep.data.toList).length ≤ 140737488355328 →
      Calls P f #[.slice (some ⟨bk, 0, none⟩) xs.length c, .string sep] w fun e w' => e = .returned (.string ⟨(Lib.join (xs.map (·.data.toList)) sep.data.toList).toArray⟩) ∧ Below w.heap.size w w')
    (q : List (List UInt8)) (sep : List UInt8) {k : Nat} (hq : q.length ≤ 140737488355328) (hlen : (Lib.join q sep).length ≤ 140737488355328) :
    Holds P f [TV.c (.own k none), TV.c (.d (.str sep))] ⟨[(k, ⟨et, 1, q.map encS⟩)], []⟩ (fun t m' => t = .c (.d (.str (Lib.join q sep))) ∧ m' = ⟨[(k, ⟨et, 1, q.map encS⟩)], []⟩) := by
  refine ⟨hE, fun C w bad vs hm hs hv => ?_⟩
  obtain ⟨v0, g1, g2⟩ := hv 0 _ rfl
  obtain ⟨v1, g3, g4⟩ := hv 1 _ rfl
  have e1 : v1 = .string ⟨sep.toArray⟩ := by
    have h : DRep w _ (.str sep) v1 := g4
    cases h; rfl
  have e : vs = #[v0, v1] := by
    apply Array.ext
    · simpa using hs
    · intro j h1 h2
      rcases j with _ | _ | j
      · rw [Array.getElem?_eq_getElem h1] at g1; simpa using g1
      · rw [Array.getElem?_eq_getElem h1] at g3; simpa using g3
      · simp at h2; omega
  subst e e1
  obtain ⟨m, hmdef⟩ : ∃ m : Mem, m = ⟨[(k, ⟨et, 1, q.map encS⟩)], []⟩ := ⟨_, rfl⟩
  rw [← hmdef] at hm hv g2 ⊢
  have ho : m.s.own k = some ⟨et, 1, q.map encS⟩ := by rw [hmdef]; simp [Mem.s, Mem.st]
  have fin : ∀ w', Mm (m.base w C bad) C m.s w' → ∃ v tv m' C', Ending.returned (.string ⟨(Lib.join q sep).toArray⟩) = Ending.returned v ∧ (tv = .c (.d (.str (Lib.join q sep))) ∧ m' = m) ∧
      Mm (m.base w C bad) C' m'.s w' ∧ TRep (m'.rep (m.base w C bad) C' w') tv v := fun w' h => ⟨_, _, _, C, rfl, ⟨rfl, rfl⟩, h, .str _⟩
  rcases g2 with ⟨c1, rfl, c3⟩ | ⟨b, n, c, c1, rfl, c3, c4, c5⟩
  · have hq0 : q = [] := by
      have := c3 _ ho
      simpa using this
    subst hq0
    refine (hN 0 ⟨sep.toArray⟩ w).mono ?_
    rintro e w' ⟨rfl, rfl⟩
    exact fin w' hm
  · obtain ⟨d1, d2, row, d3, d4⟩ := c5 _ ho
    have hn : n = q.length := by rw [d1]; simp
    subst hn
    obtain ⟨_, od⟩ := hm.own k _ ho
    rcases od with ⟨o1, _⟩ | ⟨b', row', o1, o2, o3, o4, o5⟩
    · rw [c1] at o1; cases o1
    · rw [c1] at o1; cases o1
      rw [d3] at o2; cases o2
      have hmap : (q.map fun s => ByteArray.mk s.toArray).map (·.data.toList) = q := by
        rw [List.map_map]
        exact (List.map_congr_left fun s _ => by simp).trans (List.map_id q)
      have h := hJ b c (q.map fun s => ⟨s.toArray⟩) ⟨sep.toArray⟩ w (fun j x hx => by
        rw [List.getElem?_map, Option.map_eq_some_iff] at hx
        obtain ⟨s, hs', rfl⟩ := hx
        obtain ⟨u, u1, u2⟩ := o5 j 0 [.str s] (.str s) (by simp [hs', encS]) rfl
        cases u2
        rw [Nat.zero_add]
        have u1' : row[j]? = some (.string ⟨s.toArray⟩) := by simpa using u1
        simp [World.cell?, d3, u1']) (hm.block_lt (.inl (by rw [ho]; simp)) c1) (by simpa using hq) (by simpa using c3) (by rw [hmap]; exact hlen)
      rw [hmap, List.length_map] at h
      refine h.mono ?_
      rintro e w' ⟨rfl, hb⟩
      exact fin w' (hm.grow hb)
end Go.Eng
