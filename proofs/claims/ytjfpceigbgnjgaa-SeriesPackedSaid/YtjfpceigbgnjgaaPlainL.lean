/-
The law CountersRead: what grew, gaps, the whole.
-/
import Derived.Test.YtjfpceigbgnjgaaPlainK
namespace Go.Eng
open Go
set_option linter.unusedVariables false
set_option linter.unusedSimpArgs false

/-- A loop over all elements of a list that only gathers. -/
theorem fold_loop {τ σ ρ α : Type} {l : List α} {f : τ → Option (τ ⊕ ρ)} (e : σ → Int → τ) (h : σ → α → σ) (fin : σ → ρ) (I : Nat → σ → Prop) {s0 : σ} (hl : (l.length : Int) ≤ 9223372036854775807)
    (hf : ∀ (i : Nat) (hi : i < l.length) (s : σ), I i s → f (e s i) = some (.inl (e (h s l[i]) (IntKind.wrap .i64 (i + 1)))) ∧ I (i + 1) (h s l[i])) (hd : ∀ s, I l.length s → f (e s l.length) = some (.inr (fin s))) (h0 : I 0 s0) :
    loopO f (e s0 0) = some (fin (l.foldl h s0)) ∧ I l.length (l.foldl h s0) := by
  have key : ∀ (n i : Nat) (s : σ), l.length - i = n → i ≤ l.length → I i s → loopO f (e s i) = some (fin ((l.drop i).foldl h s)) ∧ I l.length ((l.drop i).foldl h s) := by
    intro n
    induction n with
    | zero =>
      intro i s h1 h2 h3
      have : i = l.length := by omega
      subst this
      rw [List.drop_length]
      refine ⟨?_, h3⟩
      rw [loopO_eq, hd s h3]
      rfl
    | succ n ih =>
      intro i s h1 h2 h3
      have hi : i < l.length := by omega
      obtain ⟨g1, g2⟩ := hf i hi s h3
      obtain ⟨f1, f2⟩ := ih (i + 1) (h s l[i]) (by omega) (by omega) g2
      rw [drop_get hi, List.foldl_cons]
      refine ⟨?_, f2⟩
      rw [loopO_eq, g1]
      simp only [Option.bind_some]
      rw [wrap64 (by omega) (by omega)]
      exact f1
  have := key l.length 0 s0 (by omega) (by omega) h0
  simpa using this

/-! ### Grown -/
theorem grown_fun {w : api_Window} (hw : WBnd w) (rs : List api_Rise) : series_Grown_x1 w rs = fleetref2_GrownOf_x1 w rs := by
  unfold WBnd at hw
  funext ⟨n, i⟩
  have hAB : ∀ y : api_Rise, ((cond (decide (w.From < y.To)) (some (decide (y.To ≤ w.To))) (some false)).bind fun x => cond x (some (IntKind.wrap .i64 (n + y.By))) (some n)) =
      ((fleetref2_in y.To (IntKind.wrap .i64 (w.From + 1)) w.To).bind fun x => cond x (some (IntKind.wrap .i64 (n + y.By))) (some n)) := by
    intro y
    rw [wrap64 (n := w.From + 1) (by omega) (by omega), in_eq]
    have e : decide (w.From < y.To) = decide (w.From + 1 ≤ y.To) := by rw [Bool.eq_iff_iff]; simp; omega
    rw [e]
    cases decide (w.From + 1 ≤ y.To) <;> cases decide (y.To ≤ w.To) <;> rfl
  unfold series_Grown_x1 fleetref2_GrownOf_x1 series_Grown_x2 fleetref2_GrownOf_x2 series_Grown_x3
  simp only [hAB]
theorem grown_ok (w : api_Window) (rs : List api_Rise) (hl : (rs.length : Int) ≤ 9223372036854775807) : ∃ n, loopO (series_Grown_x1 w rs) (0, 0) = some n := by
  have := fold_loop (l := rs) (f := series_Grown_x1 w rs) (fun (n : Int) i => (n, i)) (fun n y => bif decide (w.From < y.To) then (bif decide (y.To ≤ w.To) then IntKind.wrap .i64 (n + y.By) else n) else n) id (fun _ _ => True) (s0 := 0) hl (fun i hi n _ => by
    refine ⟨?_, trivial⟩
    unfold series_Grown_x1 series_Grown_x2 series_Grown_x3
    have : ((i : Int) < rs.length) := by omega
    simp only [this, decide_true, cond_true, at_nat hi, Option.bind_some]
    cases decide (w.From < rs[i].To) <;> cases decide (rs[i].To ≤ w.To) <;> rfl) (fun n _ => by unfold series_Grown_x1; simp) trivial
  exact ⟨_, this.1⟩

/-! ### Gaps -/
def gp (most a b : Int) : List api_Window := if most < b - a then [api_Window.mk a b] else []
def adj (most : Int) : Int → List Int → List api_Window
  | _, [] => []
  | a, b :: r => gp most a b ++ adj most b r
def lastI : Int → List Int → Int
  | a, [] => a
  | _, b :: r => lastI b r
def inW (w : api_Window) (x : api_Sample) : Bool := decide (w.From ≤ x.At) && decide (x.At < w.To)
def moms (w : api_Window) (l : List api_Sample) : List Int := (l.filter (inW w)).map (·.At)

theorem adj_snoc (most : Int) : ∀ (a : Int) (l : List Int) (b : Int), adj most a (l ++ [b]) = adj most a l ++ gp most (lastI a l) b
  | a, [], b => by simp [adj, lastI]
  | a, c :: l, b => by simp [adj, lastI, adj_snoc most c l b]
theorem gp_len (most a b : Int) : (gp most a b).length ≤ 1 := by unfold gp; split <;> simp

theorem close_eq {most a b : Int} {out : List api_Window} (ha : -2199023255552 ≤ a ∧ a ≤ 2199023255552) (hb : -2199023255552 ≤ b ∧ b ≤ 2199023255552) (ho : out.length ≤ 1000000) : series_Gaps_1_b2o b a most out = some (out ++ gp most a b) := by
  unfold series_Gaps_1_b2o series_Gaps_1_b2o_x1 gp
  rw [wrap64 (n := b - a) (by omega) (by omega)]
  by_cases h : most < b - a
  · simp only [h, decide_true, cond_true, if_true]
    rw [gd_true (ble_lim (by simp; omega))]
    rfl
  · simp [h]
theorem series_in_eq (w : api_Window) (x : api_Sample) : series_in w x.At = some (inW w x) := by
  unfold series_in series_in_x1 inW
  cases decide (w.From ≤ x.At) <;> rfl
theorem within_eq (w : api_Window) (x : api_Sample) : fleetref2_within x.At w = some (inW w x) := by
  unfold fleetref2_within fleetref2_within_x1 inW
  cases decide (w.From ≤ x.At) <;> rfl

def gStep (w : api_Window) (most : Int) (s : List api_Window × Int) (x : api_Sample) : List api_Window × Int := cond (inW w x) (s.1 ++ gp most s.2 x.At, x.At) s
theorem gStep_fold (w : api_Window) (most : Int) : ∀ (l : List api_Sample) (out : List api_Window) (a : Int), l.foldl (gStep w most) (out, a) = (out ++ adj most a (moms w l), lastI a (moms w l))
  | [], out, a => by simp [moms, adj, lastI]
  | x :: l, out, a => by
    rw [List.foldl_cons]
    unfold gStep
    cases h : inW w x with
    | true =>
      simp only [cond_true]
      have := gStep_fold w most l (out ++ gp most a x.At) x.At
      rw [show (l.foldl (fun s x => cond (inW w x) (s.1 ++ gp most s.2 x.At, x.At) s) (out ++ gp most a x.At, x.At)) = l.foldl (gStep w most) (out ++ gp most a x.At, x.At) from rfl, this]
      simp [moms, List.filter_cons, h, adj, lastI]
    | false =>
      simp only [cond_false]
      have := gStep_fold w most l out a
      rw [show (l.foldl (fun s x => cond (inW w x) (s.1 ++ gp most s.2 x.At, x.At) s) (out, a)) = l.foldl (gStep w most) (out, a) from rfl, this]
      simp [moms, List.filter_cons, h]

theorem gaps1_eq {l : List api_Sample} {w : api_Window} {most : Int} (hb : SBnd l) (hw : WBnd w) (hl : l.length ≤ 100000) :
    loopO (series_Gaps_x1 l w most) ([], w.From, 0) = some (adj most w.From (moms w l), lastI w.From (moms w l)) ∧ (adj most w.From (moms w l)).length ≤ 100000 ∧ (-2199023255552 ≤ lastI w.From (moms w l) ∧ lastI w.From (moms w l) ≤ 2199023255552) := by
  have := fold_loop (l := l) (f := series_Gaps_x1 l w most) (fun (s : List api_Window × Int) i => (s.1, s.2, i)) (gStep w most) id (fun i s => s.1.length ≤ i ∧ (-2199023255552 ≤ s.2 ∧ s.2 ≤ 2199023255552)) (s0 := ([], w.From)) (by omega) (fun i hi s hs => by
    obtain ⟨out, a⟩ := s
    obtain ⟨h1, h2⟩ := hs
    simp only at h1 h2
    obtain ⟨_, _, b3, _⟩ := hb l[i] (List.getElem_mem hi)
    unfold series_Gaps_x1 series_Gaps_x2 gStep
    have : ((i : Int) < l.length) := by omega
    simp only [this, decide_true, cond_true, at_nat hi, Option.bind_some, series_in_eq]
    cases inW w l[i] with
    | true =>
      simp only [cond_true]
      rw [close_eq h2 b3 (by omega)]
      refine ⟨rfl, ?_, b3⟩
      have := gp_len most a l[i].At
      simp only [List.length_append]; omega
    | false => exact ⟨rfl, by simp only [cond_false]; omega, h2⟩) (fun s _ => by unfold series_Gaps_x1; simp) ⟨by simp, hw.1⟩
  rw [gStep_fold] at this
  obtain ⟨h1, h2, h3⟩ := this
  simp only [List.nil_append] at h1 h2 h3
  exact ⟨h1, by omega, h3⟩

theorem gaps2_moms {l : List api_Sample} {w : api_Window} (hl : l.length ≤ 100000) : loopO (fleetref2_GapsOf_x1 l w) ([w.From], 0) = some (w.From :: moms w l) ∧ (moms w l).length ≤ 100000 := by
  have := fold_loop (l := l) (f := fleetref2_GapsOf_x1 l w) (fun (s : List Int) i => (s, i)) (fun s x => cond (inW w x) (s ++ [x.At]) s) id (fun i s => s.length ≤ i + 1) (s0 := [w.From]) (by omega) (fun i hi s hs => by
    unfold fleetref2_GapsOf_x1 fleetref2_GapsOf_x2
    have : ((i : Int) < l.length) := by omega
    simp only [this, decide_true, cond_true, at_nat hi, Option.bind_some, within_eq]
    cases inW w l[i] with
    | true =>
      simp only [cond_true]
      rw [gd_true (ble_lim (by simp; omega))]
      exact ⟨rfl, by simp; omega⟩
    | false => exact ⟨rfl, by simp only [cond_false]; omega⟩) (fun s _ => by unfold fleetref2_GapsOf_x1; simp) (by simp)
  have hfold : ∀ (l : List api_Sample) (s : List Int), l.foldl (fun s x => cond (inW w x) (s ++ [x.At]) s) s = s ++ moms w l := by
    intro l
    induction l with
    | nil => intro s; simp [moms]
    | cons x l ih =>
      intro s
      rw [List.foldl_cons, ih]
      cases h : inW w x <;> simp [moms, List.filter_cons, h]
  rw [hfold] at this
  refine ⟨this.1, ?_⟩
  unfold moms
  have := List.length_filter_le (inW w) l
  simp only [List.length_map]; omega

theorem adj_len (most : Int) : ∀ (a : Int) (l : List Int), (adj most a l).length ≤ l.length
  | _, [] => by simp [adj]
  | a, b :: l => by
    have := adj_len most b l
    have := gp_len most a b
    simp only [adj, List.length_append, List.length_cons]; omega

theorem gaps2_eq {w : api_Window} {most : Int} (ms : List Int) (hm : ∀ x ∈ w.From :: (ms ++ [w.To]), -2199023255552 ≤ x ∧ x ≤ 2199023255552) (hl : ms.length ≤ 100000) :
    loopO (fleetref2_GapsOf_x3 w most (w.From :: ms)) ([], 1) = some (adj most w.From (ms ++ [w.To])) := by
  have hlen : ((w.From :: ms) ++ [w.To]).length = ms.length + 2 := by simp
  have key : ∀ (r : List Int) (a : Int) (i : Nat) (out : List api_Window), 0 < i → ((w.From :: ms) ++ [w.To]).drop (i - 1) = a :: r → out.length ≤ i →
      loopO (fleetref2_GapsOf_x3 w most (w.From :: ms)) (out, (i : Int)) = some (out ++ adj most a r) := by
    intro r
    induction r with
    | nil =>
      intro a i out h0 hd ho
      have h1 : i = ms.length + 2 := by
        have := congrArg List.length hd
        rw [List.length_drop, hlen] at this
        simp at this; omega
      have hlt : ¬ ((i : Int) < (((w.From :: ms) ++ [w.To]).length : Int)) := by rw [hlen]; omega
      rw [loopO_eq]
      unfold fleetref2_GapsOf_x3
      simp only [hlt, decide_false, cond_false, Option.bind_some, adj, List.append_nil]
    | cons b r ih =>
      intro a i out h0 hd ho
      have hl2 := congrArg List.length hd
      rw [List.length_drop, hlen] at hl2
      simp at hl2
      have hi : i < ((w.From :: ms) ++ [w.To]).length := by rw [hlen]; omega
      have hj : i - 1 < ((w.From :: ms) ++ [w.To]).length := by omega
      have hd' := hd
      rw [drop_get hj] at hd
      injection hd with ha hd
      have hd2 : ((w.From :: ms) ++ [w.To]).drop i = b :: r := by rw [← hd]; congr 1; omega
      have hb : ((w.From :: ms) ++ [w.To])[i] = b := by
        rw [drop_get hi] at hd2
        injection hd2
      have e1 : IntKind.wrap .i64 ((i : Int) - 1) = ((i - 1 : Nat) : Int) := by rw [wrap64 (by omega) (by omega)]; omega
      have hlt : ((i : Int) < (((w.From :: ms) ++ [w.To]).length : Int)) := by omega
      have ba := hm a (by rw [← ha]; exact List.getElem_mem hj)
      have bb := hm b (by rw [← hb]; exact List.getElem_mem hi)
      rw [loopO_eq]
      unfold fleetref2_GapsOf_x3 fleetref2_GapsOf_x4
      simp only [hlt, decide_true, cond_true, e1]
      rw [at_nat hi, at_nat hj, ha, hb]
      simp only [Option.bind_some]
      rw [wrap64 (n := b - a) (by omega) (by omega), wrap64 (n := (i : Int) + 1) (by omega) (by omega)]
      have step := ih b (i + 1) (out ++ gp most a b) (by omega) (by rw [Nat.add_sub_cancel]; exact hd2) (by have := gp_len most a b; simp only [List.length_append]; omega)
      have hsplit : (cond (decide (most < b - a)) (gd (Nat.ble (out.length + ([api_Window.mk a b] : List api_Window).length) LIM) <| some (out ++ [api_Window.mk a b])) (some out)) = some (out ++ gp most a b) := by
        unfold gp
        by_cases h : most < b - a
        · simp only [h, decide_true, cond_true, if_true]
          exact gd_true (ble_lim (by simp; omega))
        · simp [h]
      rw [hsplit]
      simp only [Option.bind_some]
      show loopO (fleetref2_GapsOf_x3 w most (w.From :: ms)) (out ++ gp most a b, (i : Int) + 1) = _
      have e2 : ((i : Int) + 1) = ((i + 1 : Nat) : Int) := by omega
      rw [e2, step]
      simp [adj]
  have := key (ms ++ [w.To]) w.From 1 [] (by omega) (by simp) (by simp)
  simpa using this

theorem gaps_both {l : List api_Sample} {w : api_Window} {most : Int} (hb : SBnd l) (hw : WBnd w) (hl : l.length ≤ 10000) :
    ∃ g, ((loopO (series_Gaps_x1 l w most) ([], w.From, 0)).bind fun (x : List api_Window × Int) => series_Gaps_1_b2o w.To x.2 most x.1) = some g ∧ fleetref2_GapsOf l w most = some g ∧ g.length ≤ 1000000 := by
  obtain ⟨h1, h2, h3⟩ := gaps1_eq (most := most) hb hw (by omega)
  obtain ⟨g1, g2⟩ := gaps2_moms (l := l) (w := w) (by omega)
  have hmb : ∀ x ∈ w.From :: (moms w l ++ [w.To]), -2199023255552 ≤ x ∧ x ≤ 2199023255552 := by
    intro x hx
    simp only [List.mem_cons, List.mem_append, List.not_mem_nil, or_false] at hx
    rcases hx with rfl | hx | rfl
    · exact hw.1
    · obtain ⟨y, hy, rfl⟩ := List.mem_map.1 hx
      exact (hb y (List.mem_filter.1 hy).1).2.2.1
    · exact hw.2
  have h4 := gaps2_eq (most := most) (moms w l) hmb g2
  refine ⟨adj most w.From (moms w l ++ [w.To]), ?_, ?_, ?_⟩
  · rw [h1]
    simp only [Option.bind_some]
    rw [close_eq h3 hw.2 (by omega), adj_snoc]
  · unfold fleetref2_GapsOf
    rw [g1]
    simp only [Option.bind_some]
    rw [gd_true (ble_lim (by simp; omega)), h4]
    rfl
  · have := adj_len most w.From (moms w l ++ [w.To])
    simp at this; omega
end Go.Eng
