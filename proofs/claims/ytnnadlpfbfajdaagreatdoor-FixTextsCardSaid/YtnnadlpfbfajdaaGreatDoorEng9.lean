/-
slices.Delete within a slice of one's own: a part is copied down in place, the rest is cleared, the beginning is left.
-/
import Derived.Test.YtnnadlpfbfajdaaGreatDoorEng8
namespace Go.Eng
open Go Go.RowKit
set_option linter.unusedVariables false
set_option linter.unusedSimpArgs false

section
variable {P : Program} {Γ : Types} {o : Oper} {base : Nat} {st : St}

theorem evI_int {B : Base} {N : Nat → Prop} {nt : Nat} {C : Nat → Option Nat} {a : Act} {w : World} (h : Inv B N nt C st a w) {x : Operand} {n : Int} (hx : evI st x = some n) : ∃ k, a.eval x = .int k n := by
  obtain ⟨k, hk⟩ := evI_spec hx
  exact ⟨k, rep_int (ev_sound h hk).1⟩
theorem run_bound1 {w : World} (k : IntKind) (n : Int) (y : Nat) (cd : BoundsCode) (g0 : 0 ≤ n) (g1 : n ≤ (y : Int)) : (Instr.sliceBound (.int k n) y cd).run P w = .ok n.toNat w := by
  simp [Instr.sliceBound, asIntOf, g0, g1]

/-- s[i:j:k]: looked at -/
theorem does_slice3 (hΓ : TypesOk P Γ) {t et : TypeId} {ti te : TI} {x lo hi mx : Operand} {id : Nat} {oe : OwnB} {l r m : Int} (ht : Γ.lookup t = some ti) (hk : ti.kind = .slice et) (hte : Γ.lookup et = some te)
    (hx : st.ev x = some (.c (.own id none))) (ho : st.own id = some oe) (hl : evI st lo = some l) (hr : evI st hi = some r) (hm : evI st mx = some m) (hb : 0 ≤ l ∧ l ≤ r ∧ r ≤ m ∧ m ≤ (oe.xs.length : Int)) (hes : te.sz = oe.sz)
    (hop : o.op = .slice t x (some lo) (some hi) (some mx)) : Does P o base st ⟨.c (.view id l.toNat (r.toNat - l.toNat)), [], [], [id]⟩ := by
  refine does_runs fun B N nt C a w h hN => ?_
  obtain ⟨_, _, d, _, _, _, _, hu, _, hkd, _⟩ := TIok.facts (hΓ.ok t ti ht)
  obtain ⟨ei, _, _, hei, hes', _⟩ := TIok.facts (hΓ.ok et _ hte)
  rw [hk] at hkd
  rw [kind_slice hkd] at hu
  obtain ⟨e1, e1r⟩ := ev_sound h hx
  obtain ⟨k1, hl1⟩ := evI_int h hl
  obtain ⟨k2, hr1⟩ := evI_int h hr
  obtain ⟨k3, hm1⟩ := evI_int h hm
  obtain ⟨q, c, hv, hc, hbk⟩ : ∃ q c, a.eval x = .slice q oe.xs.length c ∧ oe.xs.length ≤ c ∧ (0 < oe.xs.length → ∃ b, C id = some b ∧ q = some ⟨b, 0, none⟩) := by
    rcases e1 with ⟨g1, g2, g3⟩ | ⟨b, len, c, hb, hv, hc1, hc2, hc3⟩
    · have g4 : oe.xs.length = 0 := g3 oe ho
      exact ⟨none, 0, by rw [g2, g4], by omega, fun h0 => by omega⟩
    · have g4 : len = oe.xs.length := (hc3 oe ho).1
      exact ⟨_, c, by rw [hv, g4], by omega, fun _ => ⟨b, hb, rfl⟩⟩
  have hbd : (Instr.sliceBounds true oe.xs.length c (some (a.eval lo)) (some (a.eval hi)) (some (a.eval mx))).run P w = .ok (l.toNat, r.toNat, m.toNat) w := by
    have g1 := run_bound1 (P := P) (w := w) k3 m c .slice3Acap (by omega) (by omega)
    have g2 := run_bound1 (P := P) (w := w) k2 r m.toNat .slice3B (by omega) (by omega)
    have g3 := run_bound1 (P := P) (w := w) k1 l r.toNat .slice3C (by omega) (by omega)
    simp [Instr.sliceBounds, hl1, hr1, hm1, g1, g2, g3]
  refine ⟨.slice (if m.toNat = l.toNat then q else q.map (·.add (l.toNat * ei.size))) (r.toNat - l.toNat) (m.toNat - l.toNat), w, C, runs_value fun o' ho' => ?_, after_pure (tv := .c (.view id l.toNat (r.toNat - l.toNat))) h base ?_ e1r⟩
  · rw [hop] at ho'
    simp [execOp, ho', hv, Instr.sliceAt, Instr.slice, run_underlying hu, sizeOf, typeInfo, hei]
    rw [hbd]
    simp
  · intro oe' hoe'
    rw [ho] at hoe'; cases hoe'
    refine ⟨_, _, rfl, by omega, by omega, fun h0 => ?_⟩
    obtain ⟨b, g1, rfl⟩ := hbk (by omega)
    refine ⟨b, g1, ?_⟩
    rw [if_neg (by omega), hes', hes]
    simp [add_off]

/-- behind a beginning, as far as one's own goes -/
theorem does_viewP (hΓ : TypesOk P Γ) {t et : TypeId} {ti te : TI} {x lo hi : Operand} {id p : Nat} {oe : OwnB} {l r : Int} (ht : Γ.lookup t = some ti) (hk : ti.kind = .slice et) (hte : Γ.lookup et = some te)
    (hx : st.ev x = some (.c (.own id (some p)))) (ho : st.own id = some oe) (hl : evI st lo = some l) (hr : evI st hi = some r) (hb : 0 ≤ l ∧ l ≤ r ∧ r ≤ (oe.xs.length : Int)) (hes : te.sz = oe.sz)
    (hop : o.op = .slice t x (some lo) (some hi) none) : Does P o base st ⟨.c (.view id l.toNat (r.toNat - l.toNat)), [], [], [id]⟩ := by
  refine does_runs fun B N nt C a w h hN => ?_
  obtain ⟨_, _, d, _, _, _, _, hu, _, hkd, _⟩ := TIok.facts (hΓ.ok t ti ht)
  obtain ⟨ei, _, _, hei, hes', _⟩ := TIok.facts (hΓ.ok et _ hte)
  rw [hk] at hkd
  rw [kind_slice hkd] at hu
  obtain ⟨e1, e1r⟩ := ev_sound h hx
  obtain ⟨k1, hl1⟩ := evI_int h hl
  obtain ⟨k2, hr1⟩ := evI_int h hr
  obtain ⟨q, n, c, hv, hc, hbk⟩ : ∃ q n c, a.eval x = .slice q n c ∧ oe.xs.length ≤ c ∧ (0 < oe.xs.length → ∃ b, C id = some b ∧ q = some ⟨b, 0, none⟩) := by
    rcases e1 with ⟨g1, g2, g3⟩ | ⟨b, len, c, hb, hv, hc1, hc2, hc3⟩
    · obtain ⟨hpos, hbl⟩ := h.own id oe ho
      have g4 : oe.xs.length = 0 := by
        rcases hbl with ⟨_, g⟩ | ⟨b, arr, g, _⟩
        · rw [g]; rfl
        · rw [g1] at g; cases g
      exact ⟨none, 0, 0, g2, by omega, fun h0 => by omega⟩
    · obtain ⟨g4, g5, arr, hh, has⟩ := hc3 oe ho
      obtain ⟨hpos, arr', hh', hle, _⟩ := own_block h ho hb
      rw [hh] at hh'; injection hh' with hh'; injection hh' with hh' _ _; subst hh'
      refine ⟨_, len, c, hv, ?_, fun _ => ⟨b, hb, rfl⟩⟩
      rw [has] at hle
      exact Nat.le_of_mul_le_mul_right hle hpos
  have hbd : (Instr.sliceBounds true n c (some (a.eval lo)) (some (a.eval hi)) none).run P w = .ok (l.toNat, r.toNat, c) w := by
    have g2 := run_bound1 (P := P) (w := w) k2 r c .sliceAcap (by omega) (by omega)
    have g3 := run_bound1 (P := P) (w := w) k1 l r.toNat .sliceB (by omega) (by omega)
    simp [Instr.sliceBounds, hl1, hr1, g2, g3]
  refine ⟨.slice (if c = l.toNat then q else q.map (·.add (l.toNat * ei.size))) (r.toNat - l.toNat) (c - l.toNat), w, C, runs_value fun o' ho' => ?_, after_pure (tv := .c (.view id l.toNat (r.toNat - l.toNat))) h base ?_ e1r⟩
  · rw [hop] at ho'
    simp [execOp, ho', hv, Instr.sliceAt, Instr.slice, run_underlying hu, sizeOf, typeInfo, hei]
    rw [hbd]
    simp
  · intro oe' hoe'
    rw [ho] at hoe'; cases hoe'
    refine ⟨_, _, rfl, by omega, by omega, fun h0 => ?_⟩
    obtain ⟨b, g1, rfl⟩ := hbk (by omega)
    refine ⟨b, g1, ?_⟩
    rw [if_neg (by omega), hes', hes]
    simp [add_off]

/-- a part of one's own behind a beginning of it: it is copied in place, and the cells behind stay -/
theorem does_appD (hΓ : TypesOk P Γ) {t et : TypeId} {ti te : TI} {x y : Operand} {id m lo n : Nat} {oe : OwnB} (ht : Γ.lookup t = some ti) (hk : ti.kind = .slice et) (hte : Γ.lookup et = some te)
    (hx : st.ev x = some (.c (.own id (some m)))) (hy : st.ev y = some (.c (.view id lo n))) (ho : st.own id = some oe) (hoe : oe.et = et) (hes0 : oe.sz = te.sz) (hsm : te.bytes ≤ 1024) (hb : m + n ≤ oe.xs.length ∧ lo + n ≤ oe.xs.length)
    (hop : o.op = .call ⟨.builtin .append, ⟨[x, y]⟩, ⟨[t, t]⟩⟩) :
    Does P o base st ⟨.c (.own base (some (m + n))), [(id, none), (base, some ⟨oe.et, oe.sz, oe.xs.take m ++ (oe.xs.drop lo).take n ++ oe.xs.drop (m + n)⟩)], [], [base, id]⟩ := by
  obtain ⟨oet, osz, oxs⟩ := oe
  simp only at hoe hes0 hb ⊢
  subst hoe hes0
  refine does_runs fun B N nt C a w h hN => ?_
  obtain ⟨_, _, d, _, _, _, _, hu, _, hkd, _⟩ := TIok.facts (hΓ.ok t ti ht)
  obtain ⟨ei, ez, _, hei, hes, heb, hez, _, hzc, _, _, _, hzl⟩ := TIok.facts (hΓ.ok oet _ hte)
  rw [hk] at hkd
  rw [kind_slice hkd] at hu
  have ex := (ev_sound h hx).1
  have ey := (ev_sound h hy).1
  obtain ⟨hpos, hbl⟩ := h.own id _ ho
  simp only at hpos hbl
  have hyl : ((oxs.drop lo).take n).length = n := by rw [List.length_take, List.length_drop]; omega
  have run : ∀ v w', (∀ ty, (Builtin.append_ #[t, t] ty #[a.eval x, a.eval y]).run P w = .ok v w') → Runs P o.op a w v w' := fun v w' hr => by
    rw [hop]
    exact builtin_runs _ _ (fun ty => Builtin.append_ #[t, t] ty #[a.eval x, a.eval y]) (fun _ _ => rfl) hr
  rcases ex with ⟨g1, g2, g3⟩ | ⟨b, n', c, hbb, hv, hnc, hc63, h4⟩
  · have hx0 : oxs = [] := by
      rcases hbl with ⟨_, g⟩ | ⟨b, arr, g, _⟩
      · exact g
      · rw [g1] at g; cases g
    subst hx0
    have hm0 : m = 0 := by simp at hb; omega
    have hn0 : n = 0 := by simp at hb; omega
    subst hm0 hn0
    have hel : st.elems (.c (.view id lo 0)) = some ([], [id]) := by simp [St.elems, TV.c, ho]
    obtain ⟨p, cy, hvy, _⟩ := elems_sound h ey hel (sz := te.sz) (fun cs hcs => by cases hcs)
    obtain ⟨m1, m2⟩ := h.toMm.drop (id := id) h.res h.ancN
    have hne : ∀ j, N j → j ≠ id := fun j hj hji => by
      subst hji; rw [h.res.own _ hj] at ho; cases ho
    have hres1 : Res N { st with own := upd st.own id none } := ⟨fun j hj => by
      show upd st.own id none j = none
      rw [upd_ne _ _ (hne j hj)]; exact h.res.own j hj, h.res.box, h.res.t, h.res.cell⟩
    obtain ⟨q1, q2⟩ := m2.new_nil (e := ⟨oet, te.sz, []⟩) hres1 h.ancN (hN 0 (by omega)) hpos rfl
    refine ⟨.slice none 0 0, w, upd C base none, run _ _ fun ty => ?_, ?_, fun c u hc hu => ?_, ?_, ?_, own_vres (ou := []) (u := []), fun _ hi => hi.1⟩
    · rw [g2, hvy]
      exact run_append_zero hu hei none 0 0 (Nat.le_refl _) p cy
    · exact q2
    · exact q1.keep c u hc (m1.keep c u hc hu)
    · refine .inl ⟨upd_same _ _ _, rfl, fun e he' => rfl⟩
    · exact res_new_own (base := base) (e := some ⟨oet, te.sz, []⟩) hres1
  · obtain ⟨h5, h6, arr, hh, has⟩ := h4 _ ho
    simp only [Option.getD_some] at h5 h6 hh has
    subst h5
    obtain ⟨_, arr', hh', hle, hls, hcell⟩ := own_block h ho hbb
    rw [hh] at hh'; injection hh' with hh'; injection hh' with hh' _ _; subst hh'
    simp only at hle hls hcell
    have hcap : oxs.length ≤ c := by rw [has] at hle; exact Nat.le_of_mul_le_mul_right hle hpos
    have hel : st.elems (.c (.view id lo n)) = some ((oxs.drop lo).take n, [id]) := by simp [St.elems, TV.c, ho]
    have hsz : ∀ cs ∈ (oxs.drop lo).take n, cs.length = te.sz := fun cs hcs => hls cs (List.mem_of_mem_drop (List.mem_of_mem_take hcs))
    obtain ⟨p, cy, hvy, hcells⟩ := elems_sound h ey hel hsz
    rw [hyl] at hvy
    have hxl : (oxs.take n' ++ (oxs.drop lo).take n ++ oxs.drop (n' + n)).length = oxs.length := by simp [hyl]; omega
    have hxs : ∀ cs ∈ oxs.take n' ++ (oxs.drop lo).take n ++ oxs.drop (n' + n), cs.length = te.sz := by
      intro cs hcs
      rcases List.mem_append.1 hcs with hcs | hcs
      · rcases List.mem_append.1 hcs with hcs | hcs
        · exact hls cs (List.mem_of_mem_take hcs)
        · exact hsz cs hcs
      · exact hls cs (List.mem_of_mem_drop hcs)
    have inplace : ∀ (A : Array Value) (w' : World), Put1 w b (.cells A oet (0, 0)) w' → A.size = arr.size →
        (∀ (i j : Nat) (cs : List D) (x : D), (oxs.take n' ++ (oxs.drop lo).take n ++ oxs.drop (n' + n))[i]? = some cs → cs[j]? = some x → ∃ u, A[i * te.sz + j]? = some u ∧ DRep w (okOf B st C w) x u) →
        After B N (Less N base) C st w ⟨.c (.own base (some (n' + n))), [(id, none), (base, some ⟨oet, te.sz, oxs.take n' ++ (oxs.drop lo).take n ++ oxs.drop (n' + n)⟩)], [], [base, id]⟩ (.slice (some ⟨b, 0, none⟩) (n' + n) c) (upd C base (some b)) w' := by
      intro A w' hp hAs hd
      have hlc : (oxs.take n' ++ (oxs.drop lo).take n ++ oxs.drop (n' + n)).length * te.sz ≤ A.size := by rw [hxl, hAs]; exact hle
      obtain ⟨m1, m2⟩ := h.toMm.move_own (e2 := ⟨oet, te.sz, oxs.take n' ++ (oxs.drop lo).take n ++ oxs.drop (n' + n)⟩) h.res h.ancN ho (hN 0 (by omega)) hbb hh hp hpos rfl hAs hlc hxs hd
      refine ⟨m2, m1.keep, .inr ⟨b, _, c, upd_same _ _ _, rfl, by omega, hc63, fun e he => ?_⟩, ?_, own_vres (ou := []) (u := []), fun _ hi => hi.1⟩
      · have he2 : upd (upd st.own id none) base (some ⟨oet, te.sz, oxs.take n' ++ (oxs.drop lo).take n ++ oxs.drop (n' + n)⟩) base = some e := he
        rw [upd_same] at he2; injection he2 with he2; subst he2
        exact ⟨rfl, by rw [hxl]; omega, A, hp.at_, hAs.trans has⟩
      · refine ⟨fun j hj => ?_, fun j hj => h.res.box j hj.1, fun j hj => h.res.t j hj.1, fun j hj => h.res.cell j hj.1⟩
        show upd (upd st.own id none) base _ j = none
        rw [upd_ne _ _ (less_ne hj)]
        by_cases hji : j = id
        · subst hji; exact upd_same _ _ _
        · rw [upd_ne _ _ hji]; exact h.res.own j hj.1
    by_cases hn0 : n = 0
    · subst hn0
      refine ⟨_, w, upd C base (some b), run (.slice (some ⟨b, 0, none⟩) n' c) _ fun ty => ?_, ?_⟩
      · rw [hv, hvy]
        exact run_append_zero hu hei _ _ c hnc p cy
      · have := inplace arr w ⟨rfl, rfl, rfl, rfl, hh, fun _ _ => rfl⟩ rfl (by simpa using hcell)
        simpa using this
    · have hne : (oxs.drop lo).take n ≠ [] := fun e => by rw [e] at hyl; simp at hyl; omega
      obtain ⟨ad, rfl, hcc⟩ := hcells hne
      obtain ⟨news, n1, n2, n3, n4⟩ := news_list hsz hcc
      rw [hyl] at n1
      have hmul : (n' + n) * te.sz ≤ arr.size := Nat.le_trans (Nat.mul_le_mul_right _ hb.1) hle
      rw [Nat.add_mul] at hmul
      have hfit : n' * ei.size + news.length ≤ arr.size := by rw [hes, n1]; exact hmul
      have hrun := fun ty => run_append_room (P := P) w t ty oet ei hu hei b n' c arr hh ad n cy news (by rw [hes]; exact n1) n2 n3 (by omega) hfit
      rw [hes] at hrun hfit
      obtain ⟨A, hA⟩ : ∃ A, A = (arr.toList.take (n' * te.sz) ++ news ++ arr.toList.drop (n' * te.sz + news.length)).toArray := ⟨_, rfl⟩
      rw [← hA] at hrun
      refine ⟨_, _, upd C base (some b), run _ _ fun ty => by rw [hv, hvy]; exact hrun ty, inplace A _ (put1_setRow hh) ?_ ?_⟩
      · rw [hA]; simp; omega
      · intro i j cs x hi hj
        have htl : (arr.toList.take (n' * te.sz)).length = (oxs.take n').length * te.sz := by
          have : (oxs.take n').length = n' := by simp; omega
          rw [this]; simp; omega
        have hcell' : ∀ (i j : Nat) (cs : List D) (x : D), (oxs.take n')[i]? = some cs → cs[j]? = some x → ∃ u, (arr.toList.take (n' * te.sz))[i * te.sz + j]? = some u ∧ DRep w (okOf B st C w) x u := by
          intro i j cs x hi hj
          rw [List.getElem?_take] at hi
          split at hi
          case isFalse => cases hi
          rename_i hil
          obtain ⟨u, hu, hr⟩ := hcell i j cs x hi hj
          refine ⟨u, ?_, hr⟩
          have hjl : j < te.sz := by rw [← hls cs (List.mem_of_getElem? hi)]; exact (List.getElem?_eq_some_iff.1 hj).1
          have : (i + 1) * te.sz ≤ n' * te.sz := Nat.mul_le_mul_right _ hil
          rw [Nat.add_mul, Nat.one_mul] at this
          rw [List.getElem?_take, if_pos (by omega)]
          simpa using hu
        by_cases hil : i < n' + n
        · have hi2 : (oxs.take n' ++ (oxs.drop lo).take n)[i]? = some cs := by
            rw [List.getElem?_append_left (by simp [hyl]; omega)] at hi
            exact hi
          rw [hA, List.getElem?_toArray]
          exact concat_rep _ htl (fun cs hcs => hls cs (List.mem_of_mem_take hcs)) hsz (by rw [hyl]; exact n1) hcell' n4 i j cs x hi2 hj
        · have hi2 : oxs[i]? = some cs := by
            rw [List.getElem?_append_right (by simp [hyl]; omega), List.getElem?_drop] at hi
            have e : n' + n + (i - (oxs.take n' ++ (oxs.drop lo).take n).length) = i := by simp [hyl]; omega
            rw [e] at hi
            exact hi
          obtain ⟨u, hu, hr⟩ := hcell i j cs x hi2 hj
          refine ⟨u, ?_, hr⟩
          have hge : (n' + n) * te.sz ≤ i * te.sz := Nat.mul_le_mul_right _ (by omega)
          rw [Nat.add_mul] at hge
          rw [hA, List.getElem?_toArray, List.append_assoc, List.getElem?_append_right (by simp; omega), List.getElem?_append_right (by simp; omega), List.getElem?_drop]
          have e : n' * te.sz + news.length + (i * te.sz + j - (arr.toList.take (n' * te.sz)).length - news.length) = i * te.sz + j := by
            rw [List.length_take, n1]
            simp
            omega
          rw [e]
          simpa using hu
end

/-! ### What is left of a list -/
def delX {α : Type} (qs : List α) (i j : Int) : List α := qs.take i.toNat ++ (qs.drop j.toNat).take ((qs.length : Int).toNat - j.toNat) ++ qs.drop (i.toNat + ((qs.length : Int).toNat - j.toNat))
def delA {α : Type} (qs : List α) (i j : Int) : Int := ((i.toNat + ((qs.length : Int).toNat - j.toNat) : Nat) : Int)
def delY {α : Type} (qs : List α) (i j : Int) (y : α) : List α := (delX qs i j).take (delA qs i j).toNat ++ (List.replicate ((qs.length : Int).toNat - (delA qs i j).toNat) y ++ (delX qs i j).drop ((delA qs i j).toNat + ((qs.length : Int).toNat - (delA qs i j).toNat)))
theorem del_facts {α : Type} {qs : List α} {i j : Int} (h : (decide (0 ≤ i) && decide (i ≤ j) && decide (j ≤ (qs.length : Int)) && decide ((qs.length : Int) ≤ (qs.length : Int))) = true) :
    (decide (0 ≤ i) && decide (i ≤ (qs.length : Int))) = true ∧ (decide (0 ≤ j) && decide (j ≤ (qs.length : Int)) && decide ((qs.length : Int) ≤ (qs.length : Int))) = true ∧
    (Nat.ble (i.toNat + ((qs.length : Int).toNat - j.toNat)) qs.length && Nat.ble (j.toNat + ((qs.length : Int).toNat - j.toNat)) qs.length) = true ∧
    (decide (0 ≤ delA qs i j) && decide (delA qs i j ≤ (qs.length : Int)) && decide ((qs.length : Int) ≤ ((delX qs i j).length : Int))) = true ∧
    ∀ y : α, (delY qs i j y).take (i.toNat + ((qs.length : Int).toNat - j.toNat)) = qs.take i.toNat ++ qs.drop j.toNat := by
  simp only [Bool.and_eq_true, decide_eq_true_eq] at h
  obtain ⟨⟨⟨h1, h2⟩, h3⟩, _⟩ := h
  have hl : (delX qs i j).length = qs.length := by unfold delX; simp; omega
  refine ⟨by simp; omega, by simp; omega, by simp [Nat.ble_eq]; omega, ?_, fun y => ?_⟩
  · unfold delA
    rw [hl]
    simp
    omega
  · have e1 : (delA qs i j).toNat = i.toNat + ((qs.length : Int).toNat - j.toNat) := Int.toNat_natCast _
    unfold delY
    rw [e1, List.take_append_of_le_length (by rw [List.length_take, hl]; omega), List.take_take, Nat.min_self]
    unfold delX
    have hj : (qs.drop j.toNat).take ((qs.length : Int).toNat - j.toNat) = qs.drop j.toNat := List.take_of_length_le (by rw [List.length_drop]; omega)
    rw [hj, List.append_assoc, ← List.append_assoc, List.take_append_of_le_length (by simp; omega), List.take_of_length_le (by simp; omega)]
section
variable {P : Program} {Γ : Types} {A nt : Nat} {ops : Array Oper} {base k : Nat} {o : Oper} {l : List Oper} {K : St → Prop} {st : St} {α : Type}
theorem aS3 [hΓ : TOk P Γ] (f : α → List D) (id : Nat) {t : TypeId} {x lo hi mx : Operand} {xs : List α} {a b c : Int} (h : (decide (0 ≤ a) && decide (a ≤ b) && decide (b ≤ c) && decide (c ≤ (xs.length : Int))) = true) (ho : o.op = .slice t x (some lo) (some hi) (some mx))
    (hn : Aops P nt ops base (k + 1) l K (st.app o.dst ⟨.c (.view id a.toNat (b.toNat - a.toNat)), [], [], []⟩))
    (hc : (slB Γ t, evO st x, evI st lo, evI st hi, evI st mx) = (true, some (id, ⟨slE Γ t, (slT Γ t).sz, xs.map f⟩), some a, some b, some c) := by kernel_rfl) (hg : (dstOk nt o.dst && guardT ops o st) = true := by kernel_rfl) : Aops P nt ops base k (o :: l) K st := by
  rw [Bool.and_eq_true] at hg
  injection hc with h1 hc; injection hc with h2 hc; injection hc with h3 hc; injection hc with h4 h5
  obtain ⟨ti, a1, a2, a3⟩ := slB_spec h1
  obtain ⟨b1, b2⟩ := evO_spec h2
  simp only [Bool.and_eq_true, decide_eq_true_eq] at h
  have hd := does_slice3 (P := P) (o := o) (base := base + 1000 * k) hΓ.ok a1 a2 a3 b1 b2 h3 h4 h5 ⟨h.1.1.1, h.1.1.2, h.1.2, by simpa using h.2⟩ rfl ho
  exact aops_do (guardT_spec hg.2) (dstOk_spec hg.1) (does_use hd) hn
theorem aVP [hΓ : TOk P Γ] (f : α → List D) (id : Nat) {t : TypeId} {x lo hi : Operand} {p : Nat} {xs : List α} {a b : Int} (h : (decide (0 ≤ a) && decide (a ≤ b) && decide (b ≤ (xs.length : Int))) = true) (ho : o.op = .slice t x (some lo) (some hi) none)
    (hn : Aops P nt ops base (k + 1) l K (st.app o.dst ⟨.c (.view id a.toNat (b.toNat - a.toNat)), [], [], []⟩))
    (hc : (slB Γ t, evP st x, evI st lo, evI st hi) = (true, some (id, p, ⟨slE Γ t, (slT Γ t).sz, xs.map f⟩), some a, some b) := by kernel_rfl) (hg : (dstOk nt o.dst && guardT ops o st) = true := by kernel_rfl) : Aops P nt ops base k (o :: l) K st := by
  rw [Bool.and_eq_true] at hg
  injection hc with h1 hc; injection hc with h2 hc; injection hc with h3 h4
  obtain ⟨ti, a1, a2, a3⟩ := slB_spec h1
  obtain ⟨b1, b2⟩ := evP_spec h2
  simp only [Bool.and_eq_true, decide_eq_true_eq] at h
  have hd := does_viewP (P := P) (o := o) (base := base + 1000 * k) hΓ.ok a1 a2 a3 b1 b2 h3 h4 ⟨h.1.1, h.1.2, by simpa using h.2⟩ rfl ho
  exact aops_do (guardT_spec hg.2) (dstOk_spec hg.1) (does_use hd) hn
/-- a beginning of one's own that is moved is what is left -/
theorem aTM [hΓ : TOk P Γ] (f : α → List D) (id : Nat) {et : TypeId} {sz p : Nat} {x : Operand} {xs : List α} (ho : o.op = .move x)
    (hn : Aops P nt ops base (k + 1) l K (st.app o.dst ⟨.c (.own (base + 1000 * k) none), [(id, none), (base + 1000 * k, some ⟨et, sz, (xs.take p).map f⟩)], [], []⟩))
    (hc : evP st x = some (id, p, ⟨et, sz, xs.map f⟩) := by kernel_rfl) (hg : (dstOk nt o.dst && guardT ops o st) = true := by kernel_rfl) : Aops P nt ops base k (o :: l) K st := by
  rw [Bool.and_eq_true] at hg
  obtain ⟨b1, b2⟩ := evP_spec hc
  have he : aeff Γ (base + 1000 * k) o.op st = some ⟨.c (.own id (some p)), [], [], []⟩ := by
    rw [ho]
    simp only [aeff, b1]
    rfl
  have hd := does_trunc (P := P) hΓ.ok he b2
  rw [show (⟨et, sz, xs.map f⟩ : OwnB).xs.take p = (xs.take p).map f from (List.map_take ..).symm] at hd
  exact aops_do (guardT_spec hg.2) (dstOk_spec hg.1) (does_use hd) hn
end
section
variable {P : Program} {Γ : Types} {A nt : Nat} {base k : Nat} {o : Oper} {os l : List Oper} {st st0 : St} {Q : AEx → St → Prop} {idd : Nat} {acc : List Rec} {W : List Nat} {α : Type}
theorem dAD [hΓ : TOk P Γ] (f : α → List D) (id : Nat) {t : TypeId} {x y : Operand} {xs : List α} {m lo n : Nat} (hb : (Nat.ble (m + n) xs.length && Nat.ble (lo + n) xs.length) = true) (ho : o.op = .call ⟨.builtin .append, ⟨[x, y]⟩, ⟨[t, t]⟩⟩)
    (hn : DR P A nt idd base W os Q st0 (acc ++ [(o, some ⟨.c (.own (base + 1000 * k) (some (m + n))), [(id, none), (base + 1000 * k, some ⟨slE Γ t, (slT Γ t).sz, (xs.take m ++ (xs.drop lo).take n ++ xs.drop (m + n)).map f⟩)], [], []⟩, [base + 1000 * k, id])]) (k + 1) l
      (stepX (o, some ⟨.c (.own (base + 1000 * k) (some (m + n))), [(id, none), (base + 1000 * k, some ⟨slE Γ t, (slT Γ t).sz, (xs.take m ++ (xs.drop lo).take n ++ xs.drop (m + n)).map f⟩)], [], []⟩, [base + 1000 * k, id]) st))
    (hc : (apB Γ t, evP st x, evV st y) = (true, some (id, m, ⟨slE Γ t, (slT Γ t).sz, xs.map f⟩), some (id, lo, n, ⟨slE Γ t, (slT Γ t).sz, xs.map f⟩)) := by kernel_rfl)
    (hg : (dstOk nt o.dst && guardT ⟨os⟩ o st && okW W (o, some ⟨.c (.own (base + 1000 * k) (some (m + n))), [(id, none), (base + 1000 * k, some ⟨slE Γ t, (slT Γ t).sz, (xs.take m ++ (xs.drop lo).take n ++ xs.drop (m + n)).map f⟩)], [], []⟩, [base + 1000 * k, id])) = true := by kernel_rfl) :
    DR P A nt idd base W os Q st0 acc k (o :: l) st := by
  injection hc with h1 hc; injection hc with h2 h3
  obtain ⟨a0, a1, a2, a3⟩ := apB_spec h1
  obtain ⟨ti, b1, b2, b3⟩ := slB_spec a0
  obtain ⟨c1, c2⟩ := evP_spec h2
  obtain ⟨d1, d2⟩ := evV_spec h3
  rw [Bool.and_eq_true, Nat.ble_eq, Nat.ble_eq] at hb
  rw [Bool.and_eq_true] at hg
  have e1 : (xs.take m ++ (xs.drop lo).take n ++ xs.drop (m + n)).map f = (xs.map f).take m ++ ((xs.map f).drop lo).take n ++ (xs.map f).drop (m + n) := by
    simp [List.map_take, List.map_drop]
  refine dG (e := ⟨.c (.own (base + 1000 * k) (some (m + n))), [(id, none), (base + 1000 * k, some ⟨slE Γ t, (slT Γ t).sz, (xs.take m ++ (xs.drop lo).take n ++ xs.drop (m + n)).map f⟩)], [], []⟩) (U := [base + 1000 * k, id]) (fun _ σ hσ _ => ?_) (fun _ => okW_spec hg.2) hn hg.1
  have hev := agree_ev hσ
  have hx : x ∈ o.op.operands.toList := by rw [ho]; simp [Op.operands, Call.operands]
  have hy : y ∈ o.op.operands.toList := by rw [ho]; simp [Op.operands, Call.operands]
  have hid := (hσ.m id (by simp)).1
  have hd := does_appD (P := P) (o := o) (base := base + 1000 * k) (st := σ) hΓ.ok b1 b2 b3 ((hev x hx).trans c1) ((hev y hy).trans d1) (hid.trans c2) rfl rfl a2 (by simpa using hb) ho
  rw [e1]
  exact does_use hd
end

section
variable {P : Program} {Γ : Types} {A nt : Nat} {ops : Array Oper} {base k : Nat} {o : Oper} {ol : List Oper} {K : St → Prop} {st : St}
/-- an entry of a map that is written out: as a write -/
theorem does_ins (hΓ : TypesOk P Γ) {t : TypeId} {m x y : Operand} {b : Nat} {e : Eff} (ho : o.op = .insert t m x y) (he : aeff Γ b (.mapUpdate t m x y) st = some e) : Does P o b st e := by
  intro B N nt C a w K Q h hN hK
  have h1 := does_eff hΓ (o := { o with op := .mapUpdate t m x y }) he B N nt C a w K Q h hN hK
  have h2 : execOp a.eval o = execOp a.eval { o with op := .mapUpdate t m x y } := by
    unfold execOp
    rw [ho]
  unfold Oper.wp at h1 ⊢
  rw [h2]
  exact h1
variable {κ β : Type} [DecidableEq κ] {fk : κ → D} {fv : β → List D}
theorem aIns [hΓ : TOk P Γ] [KOrd κ] (id : Nat) (kk : KK) (agg : Bool) {t : TypeId} {m x y : Operand} {l : List (κ × β)} {key : κ} {v : β} (fk : κ → D) [KeyC fk] (fv : β → List D) (ho : o.op = .insert t m x y)
    (hn : Aops P nt ops base (k + 1) ol K (st.app o.dst ⟨.undef, [], [(id, some [.mapc kk agg ((aput l key v).map (encM fk fv))])], []⟩))
    (hc : updC Γ t st m x y = some (id, kk, agg, l.map (encM fk fv), fk key, fv v) := by kernel_rfl) (h : (dstOk nt o.dst && guardT ops o st) = true := by kernel_rfl) : Aops P nt ops base k (o :: ol) K st := by
  have he := x_put (Γ := Γ) (st := st) (base := base + 1000 * k) id kk agg (l := l) (k := key) (v := v) fk fv hc
  refine aS (does_ins hΓ.ok ho he) ?_ h
  refine aops_perm (es' := (aput l key v).map (encM fk fv)) ((aput_perm l key v).map _) ?_ (app_box_at _ _ _ _ _)
  rw [app_box]
  exact hn
end

/-! ### Rules for short texts (compress.py writes them) -/
abbrev Cell.i (n : Int) : Cell := .d (.int .i64 n)
abbrev Cell.s (x : List UInt8) : Cell := .d (.str x)
abbrev Cell.t (x : Bool) : Cell := .d (.bool x)
abbrev Cell.l {α : Type} (f : α → List D) (xs : List α) : Cell := .d (.lst (List.map f xs))
def nrm {α : Type} : α → AEx := fun _ => .normal
section
variable {P : Program} {Γ : Types} {A nt : Nat} {st : St} {Q : AEx → St → Prop}
/-- a region of plain operations -/
theorem gR [hΓ : TOk P Γ] {id : Nat} {l : List Oper} (n : Nat) (h : Q .normal (((runO Γ nt ⟨l⟩ st.next n 0 l st).getD st).nx (st.next + 1000 * l.length)))
    (hr : ((runO Γ nt ⟨l⟩ st.next n 0 l st).isSome && (l.drop n).isEmpty) = true := by kernel_rfl) : Awp P A nt (.region id ⟨l⟩ false) Q st := by
  rw [Bool.and_eq_true] at hr
  exact awp_region (aR n (aE h hr.2) hr.1)
theorem sR [hΓ : TOk P Γ] {id : Nat} {l : List Oper} {y : Code} (n : Nat) (h : Awp P A nt y Q (((runO Γ nt ⟨l⟩ st.next n 0 l st).getD st).nx (st.next + 1000 * l.length)))
    (hr : ((runO Γ nt ⟨l⟩ st.next n 0 l st).isSome && (l.drop n).isEmpty) = true := by kernel_rfl) : Awp P A nt (.seq (.region id ⟨l⟩ false) y) Q st :=
  awp_seq (gR n h hr)
theorem tT {c : Operand} {x y : Code} {b : Bool} (hb : b = true) (h : Awp P A nt x Q st) (hc : st.ev c = some (.v (.one (.d (.bool b)))) := by kernel_rfl) : Awp P A nt (.cond c x y) Q st := awp_true hc hb h
theorem tF {c : Operand} {x y : Code} {b : Bool} (hb : b = false) (h : Awp P A nt y Q st) (hc : st.ev c = some (.v (.one (.d (.bool b)))) := by kernel_rfl) : Awp P A nt (.cond c x y) Q st := awp_false hc hb h
theorem hW [hΓ : TOk P Γ] {f : FuncId} {args : List TV} {m : Mem} {R : TV → Mem → Prop} (fn : Func) (nt A nx : Nat)
    (h : Awp P A nt (cB fn) (FinQ Γ A fn.results.toList R) (m.st (fun s => args.getD s .undef) nx))
    (hf : P.funcs[f]? = some fn := by kernel_rfl) (hn : (fn.name == "runtime.NumGoroutine") = false := by kernel_rfl) (hb : fn.body = some (cB fn) := by kernel_rfl) (he : fn.ntmps = nt := by kernel_rfl) (hnt : Nat.ble args.length nt = true := by kernel_rfl)
    (hA : ((m.box.all fun p => Nat.blt p.1 A) && m.own.all fun p => Nat.blt p.1 A) = true := by kernel_rfl) (hlow : lows A [] [] m (args.map fun x => (0, x)) nx = true := by kernel_rfl) (hlc : lowcB m nx = true := by kernel_rfl) : Holds P f args m R := by
  subst he
  exact holds_of_awp hΓ.ok hf hn hb hnt hA hlow (lowc_of hlc) h
end
end Go.Eng
