/-
What the plain functions of the law SidesJoined answer, part 2.
-/
import Derived.Test.YtniapnjghlkkfaaGreatDoorPlainA
/-
The law SidesJoined: what two sides made of one base.
-/
namespace Go.Eng
open Go
set_option linter.unusedVariables false
set_option linter.unusedSimpArgs false

theorem First_abc3 (a b c : Int) : base_First [a, b, c] = some (or0 a (or0 b c)) := by
  unfold base_First or0
  rw [range_loop (l := [a, b, c]) (fun _ x => if x = 0 then none else some (.inr x)) (.inl ()) (by simp)]
  · by_cases ha : a = 0 <;> by_cases hb : b = 0 <;> by_cases hc : c = 0 <;> simp [scan, ha, hb, hc]
  · intro i hi
    unfold base_First_x1
    have hc : (i : Int) < ([a, b, c] : List Int).length := by omega
    simp only [hc, decide_true, cond_true, at_nat hi, Option.bind_some]
    by_cases h0 : ([a, b, c] : List Int)[i] = 0 <;> simp [h0]
  · unfold base_First_x1; simp
def w3 (o x y : api_Value) : api_Value := bif eqV x o || eqV x y then y else bif eqV y o then x else o
def cl3 (o x y : api_Value) : Bool := !(eqV x o || eqV x y) && !eqV y o
def wN (o a b : List api_Prop) (n : List UInt8) : api_Value := w3 (vo o n) (vo a n) (vo b n)
def cN (o a b : List api_Prop) (n : List UInt8) : Bool := cl3 (vo o n) (vo a n) (vo b n)
def outL (o a b : List api_Prop) (ns : List (List UInt8)) : List api_Prop := (ns.filter fun n => !decide ((wN o a b n).Kind = 0)).map fun n => api_Prop.mk n (wN o a b n)
def claL (o a b : List api_Prop) (ns : List (List UInt8)) : List api_Clash := (ns.filter fun n => cN o a b n).map fun n => api_Clash.mk n (vo o n) (vo a n) (vo b n)
theorem pair_fold {σ τ β : Type} (f : σ → β → σ) (g : τ → β → τ) : ∀ (l : List β) (s : σ) (t : τ), l.foldl (fun (p : σ × τ) x => (f p.1 x, g p.2 x)) (s, t) = (l.foldl f s, l.foldl g t)
  | [], _, _ => rfl
  | x :: l, s, t => pair_fold f g l _ _
theorem own3 {o a b : List api_Prop} {ns : List (List UInt8)} (ho : PSrt o) (ha : PSrt a) (hb : PSrt b) (lo : o.length ≤ 1000) (la : a.length ≤ 1000) (lb : b.length ≤ 1000) (ln : ns.length ≤ 1000) :
    loopO (twin_Three_x1 o a b ns) ([], [], 0) = some (outL o a b ns, claL o a b ns) := by
  have := fold_loop0 (l := ns) (f := twin_Three_x1 o a b ns) (fun (s : List api_Prop × List api_Clash) i => (s.1, s.2, i)) (fun s n => (bif !decide ((wN o a b n).Kind = 0) then s.1 ++ [api_Prop.mk n (wN o a b n)] else s.1, bif cN o a b n then s.2 ++ [api_Clash.mk n (vo o n) (vo a n) (vo b n)] else s.2)) id (fun i s => s.1.length ≤ i ∧ s.2.length ≤ i) (s0 := ([], [])) (by omega)
    (fun i hi s hs => by
      have hc : (i : Int) < ns.length := by omega
      refine ⟨?_, by cases !decide ((wN o a b ns[i]).Kind = 0) <;> simp <;> omega, by cases cN o a b ns[i] <;> simp <;> omega⟩
      have x4 : twin_Three_x4 (vo o ns[i]) (vo a ns[i]) (vo b ns[i]) = some (eqV (vo a ns[i]) (vo o ns[i]) || eqV (vo a ns[i]) (vo b ns[i])) := by
        unfold twin_Three_x4
        show (bif eqV (vo a ns[i]) (vo o ns[i]) then some true else some (eqV (vo a ns[i]) (vo b ns[i]))) = _
        cases eqV (vo a ns[i]) (vo o ns[i]) <;> rfl
      have x3 : twin_Three_x3 s.2 ns[i] (vo o ns[i]) (vo a ns[i]) (vo b ns[i]) = some (wN o a b ns[i], bif cN o a b ns[i] then s.2 ++ [api_Clash.mk ns[i] (vo o ns[i]) (vo a ns[i]) (vo b ns[i])] else s.2) := by
        unfold twin_Three_x3
        rw [x4]
        unfold wN w3 cN cl3
        simp only [Option.bind_some]
        cases (eqV (vo a ns[i]) (vo o ns[i]) || eqV (vo a ns[i]) (vo b ns[i])) with
        | true => rfl
        | false =>
          simp only [cond_false, Bool.not_false, Bool.true_and]
          show (bif eqV (vo b ns[i]) (vo o ns[i]) then _ else _) = _
          cases eqV (vo b ns[i]) (vo o ns[i]) with
          | true => rfl
          | false =>
            simp only [cond_false, gd]
            rw [lim_ok (by simp; omega)]
            rfl
      unfold twin_Three_x1 twin_Three_x2
      simp only [hc, decide_true, cond_true, at_nat hi, Option.bind_some, valueOf_eq ho (show o.length ≤ 10000 by omega), valueOf_eq ha (show a.length ≤ 10000 by omega), valueOf_eq hb (show b.length ≤ 10000 by omega), x3]
      cases (!decide ((wN o a b ns[i]).Kind = 0)) with
      | false => rfl
      | true =>
        simp only [cond_true, gd]
        rw [lim_ok (by simp; omega)]
        rfl)
    (fun s _ => by unfold twin_Three_x1; simp) (by simp)
  rw [this.1, pair_fold (fun s n => bif !decide ((wN o a b n).Kind = 0) then s ++ [api_Prop.mk n (wN o a b n)] else s) (fun s n => bif cN o a b n then s ++ [api_Clash.mk n (vo o n) (vo a n) (vo b n)] else s), foldl_filter, foldl_filter]
  rfl
theorem ref3 {o a b : List api_Prop} {ns : List (List UInt8)} (lo : o.length ≤ 1000) (la : a.length ≤ 1000) (lb : b.length ≤ 1000) (ln : ns.length ≤ 1000) :
    loopO (fleetref2_ThreeOf_x1 o a b ns) (([] : List (List UInt8 × api_Value)), [], 0) = some (ns.foldl (fun m n => aput m n (wN o a b n)) [], claL o a b ns) := by
  have := fold_loop0 (l := ns) (f := fleetref2_ThreeOf_x1 o a b ns) (fun (s : List (List UInt8 × api_Value) × List api_Clash) i => (s.1, s.2, i)) (fun s n => (aput s.1 n (wN o a b n), bif cN o a b n then s.2 ++ [api_Clash.mk n (vo o n) (vo a n) (vo b n)] else s.2)) id (fun i s => s.2.length ≤ i) (s0 := ([], [])) (by omega)
    (fun i hi s hs => by
      have hc : (i : Int) < ns.length := by omega
      refine ⟨?_, by cases cN o a b ns[i] <;> simp <;> omega⟩
      have x3 : fleetref2_ThreeOf_x3 (vo o ns[i]) (vo a ns[i]) (vo b ns[i]) = some (eqV (vo a ns[i]) (vo o ns[i]) || eqV (vo a ns[i]) (vo b ns[i])) := by
        unfold fleetref2_ThreeOf_x3
        show (bif eqV (vo a ns[i]) (vo o ns[i]) then some true else some (eqV (vo a ns[i]) (vo b ns[i]))) = _
        cases eqV (vo a ns[i]) (vo o ns[i]) <;> rfl
      unfold fleetref2_ThreeOf_x1 fleetref2_ThreeOf_x2
      simp only [hc, decide_true, cond_true, at_nat hi, Option.bind_some, ValueOf_eq (show o.length ≤ 10000 by omega), ValueOf_eq (show a.length ≤ 10000 by omega), ValueOf_eq (show b.length ≤ 10000 by omega), x3]
      unfold wN w3 cN cl3
      cases (eqV (vo a ns[i]) (vo o ns[i]) || eqV (vo a ns[i]) (vo b ns[i])) with
      | true => rfl
      | false =>
        simp only [cond_false, Bool.not_false, Bool.true_and]
        show (Option.bind (bif eqV (vo b ns[i]) (vo o ns[i]) then _ else _) _) = _
        cases eqV (vo b ns[i]) (vo o ns[i]) with
        | true => rfl
        | false =>
          simp only [cond_false, gd]
          rw [lim_ok (by simp; omega)]
          rfl)
    (fun s _ => by unfold fleetref2_ThreeOf_x1; simp) (by simp)
  rw [this.1, pair_fold (fun m n => aput m n (wN o a b n)) (fun s n => bif cN o a b n then s ++ [api_Clash.mk n (vo o n) (vo a n) (vo b n)] else s), foldl_filter]
  rfl
theorem in8b {l : List api_Prop} (hg : PGood l) (hq : ∀ p ∈ l, KQ p) : ∀ p ∈ l, p.Name ∈ nm8b := by
  intro p hp
  have := List.all_eq_true.1 nm18_8b _ (hq p hp).name
  rw [(hg.gp p hp).1] at this
  simp only [decide_true, Bool.not_true, Bool.false_or, List.any_eq_true] at this
  obtain ⟨m, hm, e⟩ := this
  rw [← of_decide_eq_true e]; exact hm
theorem w3_val {o x y : api_Value} (ho : KVal o) (hx : KVal x) (hy : KVal y) : KVal (w3 o x y) := by
  unfold w3
  cases (eqV x o || eqV x y) with
  | true => exact hy
  | false => cases eqV y o with
    | true => exact hx
    | false => exact ho
theorem Three_ok {o a b : List api_Prop} (qo : ∀ p ∈ o, KQ p) (qa : ∀ p ∈ a, KQ p) (qb : ∀ p ∈ b, KQ p) (go : PGood o) (ga : PGood a) (gb : PGood b) (h1 : twin_CheckProps o = some 0) (h2 : twin_CheckProps a = some 0) (h3 : twin_CheckProps b = some 0) :
    ∃ x c e, twin_Three o a b = some (x, c, e) ∧ fleetref2_ThreeOf o a b = some (x, c, e) ∧ x.length ≤ 1000 ∧ c.length ≤ 1000 := by
  have l1 := few5 go qo
  have l2 := few5 ga qa
  have l3 := few5 gb qb
  have fl : ([o, a, b].flatMap (List.map api_Prop.Name)).length ≤ 15 := by simp; omega
  obtain ⟨ns, n1, n2, n3, n4⟩ := names18 (Ls := [o, a, b]) (by simp) fl (by
    intro l hl p hp
    simp only [List.mem_cons, List.not_mem_nil, or_false] at hl
    rcases hl with rfl | rfl | rfl
    · exact (qo p hp).name
    · exact (qa p hp).name
    · exact (qb p hp).name)
  have hnd : ns.Nodup := List.Pairwise.imp (fun h => nlt_ne h) n3
  have h8 : ns.length ≤ 8 := by
    have := nodup_few hnd (m := nm8b) fun n hn => by
      obtain ⟨_, l, hl, p, hp, rfl⟩ := n4 n hn
      simp only [List.mem_cons, List.not_mem_nil, or_false] at hl
      rcases hl with rfl | rfl | rfl
      · exact in8b go qo p hp
      · exact in8b ga qa p hp
      · exact in8b gb qb p hp
    simpa [nm8b] using this
  have hks : KS (ns.foldl (fun m n => aput m n (wN o a b n)) ([] : List (List UInt8 × api_Value))) := puts_ks (fun n : List UInt8 => n) (fun n => wN o a b n) ns [] List.Pairwise.nil
  have hmem : ∀ x, x ∈ ns.foldl (fun m n => aput m n (wN o a b n)) ([] : List (List UInt8 × api_Value)) ↔ ∃ n ∈ ns, x = (n, wN o a b n) := fun x => by
    have := puts_mem (fun n : List UInt8 => n) (fun n => wN o a b n) ns ([] : List (List UInt8 × api_Value)) (by rw [List.map_id']; exact hnd) x
    rw [this]
    simp
  have hv : ∀ n, KVal (wN o a b n) := fun n => w3_val (vo_val qo n) (vo_val qa n) (vo_val qb n)
  have hMl : (ns.foldl (fun m n => aput m n (wN o a b n)) ([] : List (List UInt8 × api_Value))).length ≤ 12 := by
    have := nodup_few (ks_keys hks) (m := ns) fun n hn => by
      obtain ⟨e, he, rfl⟩ := List.mem_map.1 hn
      obtain ⟨n, hn', rfl⟩ := (hmem e).1 he
      exact hn'
    rw [List.length_map] at this
    omega
  obtain ⟨r, e, q1, q2, q3, q4, q5, q6, q7⟩ := from_gen hks hMl fun x hx => by
    obtain ⟨n, hn, rfl⟩ := (hmem x).1 hx
    exact ⟨(n4 n hn).1, hv n⟩
  have hos : PSrt (outL o a b ns) := by
    unfold PSrt outL
    rw [List.pairwise_map]
    exact List.Pairwise.filter _ n3
  have hr : r = outL o a b ns := pext q2 hos fun p => by
    rw [q1.mem_iff]
    unfold frL outL
    simp only [List.mem_map, List.mem_filter, Bool.not_eq_true', decide_eq_false_iff_not]
    constructor
    · rintro ⟨x, ⟨x1, x2⟩, rfl⟩
      obtain ⟨n, hn, rfl⟩ := (hmem x).1 x1
      exact ⟨n, ⟨hn, x2⟩, rfl⟩
    · rintro ⟨n, ⟨hn, x2⟩, rfl⟩
      exact ⟨(n, wN o a b n), ⟨(hmem _).2 ⟨n, hn, rfl⟩, x2⟩, rfl⟩
  subst hr
  have lo : (outL o a b ns).length ≤ 8 := by
    unfold outL
    rw [List.length_map]
    exact Nat.le_trans (List.length_filter_le _ _) h8
  have lc : (claL o a b ns).length ≤ 8 := by
    unfold claL
    rw [List.length_map]
    exact Nat.le_trans (List.length_filter_le _ _) h8
  refine ⟨if e = 0 then outL o a b ns else [], if e = 0 then claL o a b ns else [], e, ?_, ?_, by split <;> first | omega | simp, by split <;> first | omega | simp⟩
  · unfold twin_Three
    simp only [h1, h2, h3, Option.bind_some, First_abc3, decide_true, Bool.not_true, cond_false, n1, own3 go.srt ga.srt gb.srt (show o.length ≤ 1000 by omega) (show a.length ≤ 1000 by omega) (show b.length ≤ 1000 by omega) (show ns.length ≤ 1000 by omega), q5]
    by_cases h0 : e = 0
    · simp [h0, or0]
    · simp [h0, or0]
  · unfold fleetref2_ThreeOf
    rw [namesOf_eq, n1]
    simp only [Option.bind_some, ref3 (o := o) (a := a) (b := b) (ns := ns) (by omega) (by omega) (by omega) (by omega), q7]
    by_cases h0 : e = 0
    · simp [h0]
    · simp [h0]
theorem kEqual_self {l : List api_Clash} (hl : (l.length : Int) ≤ 9223372036854775807) : slices_Equal_api_Clash_api_Clash l l = some true := by
  unfold slices_Equal_api_Clash_api_Clash
  simp only [decide_true, Bool.not_true, cond_false]
  rw [range_loop (l := l) (fun _ _ => none) (.inl ()) hl]
  · have : ∀ (k : Nat) (m : List api_Clash), scan (fun (_ : Nat) (_ : api_Clash) => (none : Option (Unit ⊕ Unit))) k m = none := fun k m => scan_none.2 fun _ _ _ => rfl
    rw [this]; rfl
  · intro i hi
    unfold slices_Equal_api_Clash_api_Clash_x1
    have hc : (i : Int) < l.length := by omega
    simp only [hc, decide_true, cond_true, at_nat hi, Option.bind_some, beq_self_eq_true, Bool.and_self, Bool.and_true]
    rfl
  · unfold slices_Equal_api_Clash_api_Clash_x1; simp
theorem SidesJoined_true (L : List Int) (hL : L.length ≤ 9223372036854775807) (hI : ∀ n ∈ L, -9223372036854775808 ≤ n ∧ n ≤ 9223372036854775807) : fleetlaw2_SidesJoined L = some true := by
  apply Ok.eq
  unfold fleetlaw2_SidesJoined
  have h0 : StrOk 0 (fleetmake_Stream.mk L 0) := ⟨Int.le_refl _, by simp, hL, hI⟩
  refine (Props_ok h0 (by omega)).bind fun ⟨s1, o⟩ ⟨a1, qo, lo⟩ => ?_
  simp only at a1 qo lo
  refine (Props_ok a1 (by omega)).bind fun ⟨s2, b0⟩ ⟨b1, qb0, lb0⟩ => ?_
  simp only at b1 qb0 lb0
  have hx1 : Ok (fleetlaw2_SidesJoined_x1 o s2) (fun r => StrOk 1000 r.1 ∧ (∀ p ∈ r.2, KQ p) ∧ r.2.length ≤ 12) := by
    unfold fleetlaw2_SidesJoined_x1
    refine (Changes_ok b1 (by omega) qo lo).bind fun ⟨s3, C⟩ ⟨c1, hC⟩ => ?_
    simp only at c1 hC
    refine (ApplyOf_tot qo lo hC).bind fun ⟨x, e⟩ ⟨x1, x2⟩ => ?_
    simp only at x1 x2
    refine Ok.bind (P := fun _ => True) ?_ fun v _ => .cond (fun _ => .some ⟨StrOk.mono c1 (by omega), x1, x2⟩) (fun _ => .some ⟨StrOk.mono c1 (by omega), qo, by simp only; omega⟩)
    unfold fleetlaw2_SidesJoined_x2
    obtain ⟨f, _, f2, _⟩ := checks (l := o) (by omega) fun p hp => (qo p hp).kp
    rw [f2]
    exact .cond (fun _ => .some trivial) fun _ => .some trivial
  refine hx1.bind fun ⟨s4, a⟩ ⟨d1, qa, la⟩ => ?_
  simp only at d1 qa la
  have hx3 : Ok (fleetlaw2_SidesJoined_x3 o b0 s4) (fun r => (∀ p ∈ r, KQ p) ∧ r.length ≤ 12) := by
    unfold fleetlaw2_SidesJoined_x3
    exact (Flip_ok d1 (by omega) (by unfold I64; omega)).bind fun v _ => .cond (fun _ => .some ⟨qo, by omega⟩) (fun _ => .some ⟨qb0, by omega⟩)
  refine hx3.bind fun b ⟨qb, lb⟩ => ?_
  obtain ⟨eo, o1, o2, o3⟩ := checks (l := o) (by omega) fun p hp => (qo p hp).kp
  obtain ⟨ea, p1, p2, p3⟩ := checks (l := a) (by omega) fun p hp => (qa p hp).kp
  obtain ⟨eb, q1, q2, q3⟩ := checks (l := b) (by omega) fun p hp => (qb p hp).kp
  obtain ⟨x, c, e, t1, t2, t3, t4⟩ : ∃ x c e, twin_Three o a b = some (x, c, e) ∧ fleetlaw2_SidesJoined_x4 o a b (or0 eo (or0 ea eb)) = some (e, x, c) ∧ x.length ≤ 1000 ∧ c.length ≤ 1000 := by
    by_cases hz : or0 eo (or0 ea eb) = 0
    · obtain ⟨z1, z2⟩ := or0_zero.1 hz
      obtain ⟨z3, z4⟩ := or0_zero.1 z2
      subst z1; subst z3; subst z4
      obtain ⟨x, c, e, t1, t2, t3, t4⟩ := Three_ok qo qa qb (o3 rfl) (p3 rfl) (q3 rfl) o1 p1 q1
      refine ⟨x, c, e, t1, ?_, t3, t4⟩
      unfold fleetlaw2_SidesJoined_x4
      rw [hz, t2]
      rfl
    · refine ⟨[], [], or0 eo (or0 ea eb), ?_, ?_, by simp, by simp⟩
      · unfold twin_Three
        simp only [o1, p1, q1, Option.bind_some, First_abc3]
        simp [hz]
      · unfold fleetlaw2_SidesJoined_x4
        simp [hz]
  have hx5 : fleetlaw2_SidesJoined_x5 x c e e x c = some true := by
    unfold fleetlaw2_SidesJoined_x5
    simp only [decide_true, cond_true, pEqual_self (show (x.length : Int) ≤ 9223372036854775807 by omega), kEqual_self (show (c.length : Int) ≤ 9223372036854775807 by omega), Option.bind_some, twinned_eq]
  simp only [t1, o2, p2, q2, errs3, t2, hx5, Option.bind_some]
  exact .some rfl
end Go.Eng

