/-
More operations: the capacity of nil, a part of nil, elements of a part, clearing a part, bytes as a string.
-/
import Derived.Test.YtnnadlpfbfajdaaGreatDoorEngZ
namespace Go.Eng
open Go
set_option linter.unusedVariables false
set_option linter.unusedSimpArgs false

section
variable {P : Program} {Γ : Types} {B : Base} {N : Nat → Prop} {nt : Nat} {C : Nat → Option Nat} {st : St} {a : Act} {w : World} {o : Oper} {base : Nat} {e : Eff}

theorem does_runs (h : ∀ B N nt C a w, Inv B N nt C st a w → (∀ j, j < 1000 → N (base + j)) → ∃ v w' C', Runs P o.op a w v w' ∧ After B N (Less N base) C st w e v C' w') : Does P o base st e := by
  intro B N nt C a w K Q hi hN hK
  obtain ⟨v, w', C', hr, hA⟩ := h B N nt C a w hi hN
  unfold Oper.wp
  rcases hr o rfl with h1 | ⟨h1, h2⟩
  · rw [h1]; exact hK v w' C' hA
  · rw [h1]
    subst h2
    exact hK _ w' C' hA

theorem builtin_runs {b : Builtin} {al : List Operand} {tl : List TypeId} (v : Value) (w' : World) (s : TypeId → Sem Value) (hb : ∀ ty cs, builtin b ⟨tl⟩ ty cs (al.map a.eval).toArray = (do pure (Next.value (← s ty)))) (hs : ∀ ty, (s ty).run P w = .ok v w') :
    Runs P (.call ⟨.builtin b, ⟨al⟩, ⟨tl⟩⟩) a w v w' := by
  refine runs_value fun o' ho => ?_
  have hm : (Array.mk al).map a.eval = (al.map a.eval).toArray := by simp
  simp only [execOp, ho, resolve, invoke, Sem.run_bind, Sem.run_pure, Result.andThen_ok, hm, hb, hs]

/-! ### nil -/
theorem does_cap0 (hΓ : TypesOk P Γ) {t et : TypeId} {ti : TI} {x : Operand} (ht : Γ.lookup t = some ti) (hk : ti.kind = .slice et) (hx : st.ev x = some (.c .nil)) (ho : o.op = .call ⟨.builtin .cap, ⟨[x]⟩, ⟨[t]⟩⟩) :
    Does P o base st ⟨.i 0, [], [], []⟩ := by
  refine does_runs fun B N nt C a w hi hN => ?_
  obtain ⟨_, _, d, _, _, _, _, hu, _, hkd, _⟩ := TIok.facts (hΓ.ok t ti ht)
  rw [hk] at hkd
  have hd := kind_slice hkd
  subst hd
  have hv : a.eval x = .slice none 0 0 := (ev_sound hi hx).1
  refine ⟨.int .i64 0, w, C, ?_, after_d hi base (.int _ _)⟩
  rw [ho]
  refine builtin_runs _ _ (fun ty => Builtin.cap_ ⟨[t]⟩ ty #[a.eval x]) (fun _ _ => rfl) fun ty => ?_
  rw [hv]
  simp [Builtin.cap_, run_underlying hu, goInt]

theorem does_slnil (hΓ : TypesOk P Γ) {t et : TypeId} {ti te : TI} {x : Operand} {lo hi : Option Operand} (ht : Γ.lookup t = some ti) (hk : ti.kind = .slice et) (hte : Γ.lookup et = some te) (hx : st.ev x = some (.c .nil))
    (hl : aeff.bnd st lo 0 = some 0) (hh : aeff.bnd st hi 0 = some 0) (ho : o.op = .slice t x lo hi none) :
    Does P o base st ⟨.c .nil, [], [], []⟩ := by
  refine does_runs fun B N nt C a w h hN => ?_
  obtain ⟨_, _, d, _, _, _, _, hu, _, hkd, _⟩ := TIok.facts (hΓ.ok t ti ht)
  obtain ⟨ei, _, _, hei, hes, _⟩ := TIok.facts (hΓ.ok et _ hte)
  rw [hk] at hkd
  have hd := kind_slice hkd
  subst hd
  have hv : a.eval x = .slice none 0 0 := (ev_sound h hx).1
  refine ⟨.slice none 0 0, w, C, ?_, after_pure h base (tv := .c .nil) rfl (fun r hr => by simp [TV.refs, T1.refs, Cell.refs] at hr)⟩
  rw [ho]
  refine runs_value fun o' ho' => ?_
  have hb := run_sliceBounds (P := P) (len := 0) (cap := 0) true h hl hh (Int.le_refl 0) (Int.le_refl 0) (Int.le_refl 0) (Nat.le_refl 0)
  simp [execOp, ho', hv, Instr.sliceAt, Instr.slice, run_underlying hu, sizeOf, typeInfo, hei, hb]

/-! ### Elements of a part -/
def evV (st : St) (x : Operand) : Option (Nat × Nat × Nat × OwnB) := match st.ev x with
  | some (.v (.one (.view id lo n))) => (st.own id).map fun e => (id, lo, n, e)
  | _ => none
theorem evV_spec {x : Operand} {id lo n : Nat} {e : OwnB} (h : evV st x = some (id, lo, n, e)) : st.ev x = some (.c (.view id lo n)) ∧ st.own id = some e := by
  unfold evV at h
  split at h
  · rename_i h1
    rw [Option.map_eq_some_iff] at h
    obtain ⟨e', h2, h3⟩ := h
    injection h3 with h3 h4; injection h4 with h4 h5; injection h5 with h5 h6; subst h3 h4 h5 h6
    exact ⟨h1, h2⟩
  · cases h
theorem x_idxV {α : Type} (f : α → List D) (id : Nat) {t : TypeId} {x i : Operand} {l : List α} {lo hi n : Int} {y : α} (hg : (decide (0 ≤ lo) && decide (0 ≤ n) && decide (n < hi - lo)) = true) (h : at? l (lo + n) = some y)
    (hc : (slB Γ t, evV st x, evI st i) = (true, some (id, lo.toNat, hi.toNat - lo.toNat, ⟨slE Γ t, (slT Γ t).sz, l.map f⟩), some n) := by kernel_rfl) : aeff Γ base (.indexAddr t x i) st = some ⟨.c (.ep id (lo + n).toNat 0), [], [], [id]⟩ := by
  injection hc with h1 hc; injection hc with h2 h3
  obtain ⟨ti, a1, a2, a3⟩ := slB_spec h1
  obtain ⟨k, a4⟩ := evI_spec h3
  obtain ⟨a5, a6⟩ := evV_spec h2
  obtain ⟨s1, s2, s3, s4, s5⟩ := ti
  subst a2
  simp only [Bool.and_eq_true, decide_eq_true_eq] at hg
  simp only [aeff, a1, a5, a4, a3, ownEt, a6, and_self, if_true]
  rw [if_pos ⟨hg.1.2, by omega⟩]
  congr 4
  omega

/-! ### Clearing a part -/
theorem does_clear (hΓ : TypesOk P Γ) {t et : TypeId} {ti te : TI} {x : Operand} {id lo n : Nat} {oe : OwnB} {z : List D} (ht : Γ.lookup t = some ti) (hk : ti.kind = .slice et) (hte : Γ.lookup et = some te)
    (hx : st.ev x = some (.c (.view id lo n))) (ho : st.own id = some oe) (hz : toDs te.zero = some z) (hzl : z.length = te.sz) (hes : oe.sz = te.sz) (hop : o.op = .call ⟨.builtin .clear, ⟨[x]⟩, ⟨[t]⟩⟩) :
    Does P o base st ⟨.tup [], [(id, some { oe with xs := oe.xs.take lo ++ (List.replicate n z ++ oe.xs.drop (lo + n)) })], [], []⟩ := by
  refine does_runs fun B N nt C a w h hN => ?_
  obtain ⟨_, _, d, _, _, _, _, hu, _, hkd, _⟩ := TIok.facts (hΓ.ok t ti ht)
  obtain ⟨ei, ez, _, hei, hes', _, hez, _, hzc, _⟩ := TIok.facts (hΓ.ok et _ hte)
  rw [hk] at hkd
  have hd := kind_slice hkd
  subst hd
  obtain ⟨p, c, hv, hnc, hln, hb⟩ := (ev_sound h hx).1 oe ho
  obtain ⟨z1, z2, z3⟩ := zcells_sound (w := w) (ok := okOf B st C w) (C := C) (own := st.own) hzc
  obtain ⟨f1, f2, f3⟩ := toDs_sound (w := w) (ok := okOf B st C w) (C := C) (own := st.own) hz
  have hezs : ez.cells.size = te.sz := by have : ez.cells.toList.length = te.zero.length := z1; simp at this; omega
  have run : ∀ w', (Builtin.clear_ ⟨[t]⟩ 0 #[a.eval x]).run P w = .ok (.tuple #[]) w' → (∀ ty, Builtin.clear_ ⟨[t]⟩ ty #[a.eval x] = Builtin.clear_ ⟨[t]⟩ 0 #[a.eval x]) → Runs P o.op a w (.tuple #[]) w' := fun w' hr he => by
    rw [hop]
    exact builtin_runs _ _ (fun ty => Builtin.clear_ ⟨[t]⟩ ty #[a.eval x]) (fun _ _ => rfl) fun ty => by rw [he]; exact hr
  by_cases h0 : n = 0
  · subst h0
    have hst : ({ st with own := upd st.own id (some { oe with xs := oe.xs.take lo ++ (List.replicate 0 z ++ oe.xs.drop (lo + 0)) }) } : St) = st := by
      have : oe.xs.take lo ++ (List.replicate 0 z ++ oe.xs.drop (lo + 0)) = oe.xs := by simp
      rw [this]
      have h2 : upd st.own id (some oe) = st.own := by
        funext j
        unfold upd
        split
        · rename_i hj; rw [hj]; exact ho.symm
        · rfl
      show ({ st with own := upd st.own id (some oe) } : St) = st
      rw [h2]
    have hmem : st.mem ⟨.tup [], [(id, some { oe with xs := oe.xs.take lo ++ (List.replicate 0 z ++ oe.xs.drop (lo + 0)) })], [], []⟩ = st := hst
    refine ⟨_, w, C, run w ?_ (fun _ => rfl), ⟨by rw [hmem]; exact h.toMm, by rw [hmem]; exact fun c u _ hu => hu, ⟨#[], rfl, rfl, fun j x hj => by simp at hj⟩, by rw [hmem]; exact h.res.less (fun id hid => hid.1), fun r hr => by simp [TV.refs] at hr, fun _ hi => hi.1⟩⟩
    rw [hv]
    cases p <;> simp [Builtin.clear_, run_underlying hu]
  · obtain ⟨b, hb1, hb2⟩ := hb (by omega)
    subst hb2
    obtain ⟨hpos, arr, hh, hle, hls, hcell⟩ := own_block h ho hb1
    have hfit : (lo + n) * oe.sz ≤ arr.size := Nat.le_trans (Nat.mul_le_mul_right _ hln) hle
    rw [Nat.add_mul] at hfit
    have hzsz : (Builtin.zeroCells ez.cells n).toList.length = n * oe.sz := by simp [Builtin.zeroCells, hezs, hes]
    have hzat : ∀ i j u, i < n → j < oe.sz → ez.cells[j]? = some u → (Builtin.zeroCells ez.cells n).toList[i * oe.sz + j]? = some u := by
      intro i j u hi hj hu
      have hlt : i * oe.sz + j < n * oe.sz := by
        have : (i + 1) * oe.sz ≤ n * oe.sz := Nat.mul_le_mul_right _ hi
        rw [Nat.add_mul, Nat.one_mul] at this
        omega
      rw [Array.getElem?_toList]
      simp only [Builtin.zeroCells, Array.getElem?_map]
      rw [hezs, ← hes, Array.getElem?_range, if_pos hlt]
      have hmod : (i * oe.sz + j) % oe.sz = j := by rw [Nat.mul_comm, Nat.mul_add_mod]; exact Nat.mod_eq_of_lt hj
      simp only [Option.map_some, hmod]
      rw [getElem!_def, hu]
    have hz1 : ∀ u ∈ (Builtin.zeroCells ez.cells n).toList, u.oneCell' = true := by
      intro u hu
      obtain ⟨k, hk, rfl⟩ := List.mem_iff_getElem.1 hu
      rw [hzsz] at hk
      have hj : k % oe.sz < oe.sz := Nat.mod_lt _ hpos
      have hi : k / oe.sz < n := Nat.div_lt_of_lt_mul (by rw [Nat.mul_comm]; exact hk)
      have hjz : k % oe.sz < z.length := by rw [hzl, ← hes]; exact hj
      obtain ⟨c', hc', hcr⟩ := f3 (k % oe.sz) z[k % oe.sz] (List.getElem?_eq_getElem hjz)
      obtain ⟨u, hu1, hu2⟩ := z3 (k % oe.sz) c' hc'
      have := hzat (k / oe.sz) (k % oe.sz) u hi hj (by simpa using hu1)
      rw [show k / oe.sz * oe.sz + k % oe.sz = k by rw [Nat.mul_comm]; exact Nat.div_add_mod k oe.sz] at this
      rw [List.getElem?_eq_getElem (by rw [hzsz]; exact hk)] at this
      injection this with this
      rw [this]
      exact drep_one (hcr u hu2)
    have hrs := run_storeCells_at P b (lo * oe.sz) oe.et (Builtin.zeroCells ez.cells n).toList 0 arr w hh (by rw [hzsz]; omega) hz1
    simp only [Nat.add_zero, hzsz] at hrs
    obtain ⟨A, hA⟩ : ∃ A, A = (arr.toList.take (lo * oe.sz) ++ (Builtin.zeroCells ez.cells n).toList ++ arr.toList.drop (lo * oe.sz + n * oe.sz)).toArray := ⟨_, rfl⟩
    rw [← hA] at hrs
    have hAs : A.size = arr.size := by
      rw [hA]
      simp only [List.size_toArray, List.length_append, List.length_take, List.length_drop, hzsz, Array.length_toList]
      omega
    have hAt : ∀ k, A[k]? = if k < lo * oe.sz then arr[k]? else if k < lo * oe.sz + n * oe.sz then (Builtin.zeroCells ez.cells n).toList[k - lo * oe.sz]? else arr[k]? := by
      intro k
      rw [hA, List.getElem?_toArray]
      have hl0 : (arr.toList.take (lo * oe.sz)).length = lo * oe.sz := by simp; omega
      by_cases k1 : k < lo * oe.sz
      · rw [if_pos k1, List.append_assoc, List.getElem?_append_left (by omega), List.getElem?_take, if_pos k1, Array.getElem?_toList]
      · rw [if_neg k1, List.append_assoc, List.getElem?_append_right (by omega), hl0]
        by_cases k2 : k < lo * oe.sz + n * oe.sz
        · rw [if_pos k2, List.getElem?_append_left (by omega)]
        · rw [if_neg k2, List.getElem?_append_right (by omega), hzsz, List.getElem?_drop, Array.getElem?_toList]
          congr 1; omega
    have hlt : (oe.xs.take lo).length = lo := by simp; omega
    have hget : ∀ i, (oe.xs.take lo ++ (List.replicate n z ++ oe.xs.drop (lo + n)))[i]? = if i < lo then oe.xs[i]? else if i < lo + n then some z else oe.xs[i]? := by
      intro i
      by_cases i1 : i < lo
      · rw [if_pos i1, List.getElem?_append_left (by omega), List.getElem?_take, if_pos i1]
      · rw [if_neg i1, List.getElem?_append_right (by omega), hlt]
        by_cases i2 : i < lo + n
        · rw [if_pos i2, List.getElem?_append_left (by simp; omega), List.getElem?_replicate, if_pos (by omega)]
        · rw [if_neg i2, List.getElem?_append_right (by simp; omega), List.length_replicate, List.getElem?_drop]
          congr 1; omega
    have hlen : oe.xs.length = (oe.xs.take lo ++ (List.replicate n z ++ oe.xs.drop (lo + n))).length := by simp; omega
    obtain ⟨hm1, hm2⟩ := h.toMm.put_own (xs' := oe.xs.take lo ++ (List.replicate n z ++ oe.xs.drop (lo + n))) h.res h.ancN ho hb1 hh (put1_setRow (cs := A) hh) hAs hlen (by rw [hAs, ← hlen]; exact hle)
      (fun cs hcs => by
        rcases List.mem_append.1 hcs with hcs | hcs
        · exact hls cs (List.mem_of_mem_take hcs)
        · rcases List.mem_append.1 hcs with hcs | hcs
          · rw [(List.mem_replicate.1 hcs).2, hzl, hes]
          · exact hls cs (List.mem_of_mem_drop hcs))
      (fun i j cs x hi hj => by
        rw [hget] at hi
        rw [hAt]
        by_cases i1 : i < lo
        · rw [if_pos i1] at hi
          obtain ⟨u, hu, hr⟩ := hcell i j cs x hi hj
          have hjl : j < oe.sz := by rw [← hls cs (List.mem_of_getElem? hi)]; exact (List.getElem?_eq_some_iff.1 hj).1
          have : (i + 1) * oe.sz ≤ lo * oe.sz := Nat.mul_le_mul_right _ i1
          rw [Nat.add_mul, Nat.one_mul] at this
          refine ⟨u, ?_, hr⟩
          rw [if_pos (by omega)]; exact hu
        · rw [if_neg i1] at hi
          have hge : lo * oe.sz ≤ i * oe.sz := Nat.mul_le_mul_right _ (by omega)
          rw [if_neg (by omega)]
          by_cases i2 : i < lo + n
          · rw [if_pos i2] at hi
            injection hi with hi; subst hi
            have hjl : j < oe.sz := by rw [hes, ← hzl]; exact (List.getElem?_eq_some_iff.1 hj).1
            obtain ⟨c', hc', hcr⟩ := f3 j x hj
            obtain ⟨u, hu1, hu2⟩ := z3 j c' hc'
            have h1 := hzat (i - lo) j u (by omega) hjl (by simpa using hu1)
            rw [Nat.sub_mul, show i * oe.sz - lo * oe.sz + j = i * oe.sz + j - lo * oe.sz by omega] at h1
            have : (i + 1) * oe.sz ≤ (lo + n) * oe.sz := Nat.mul_le_mul_right _ i2
            rw [Nat.add_mul, Nat.add_mul, Nat.one_mul] at this
            refine ⟨u, ?_, hcr u hu2⟩
            rw [if_pos (by omega)]; exact h1
          · rw [if_neg i2] at hi
            have : (lo + n) * oe.sz ≤ i * oe.sz := Nat.mul_le_mul_right _ (by omega)
            rw [Nat.add_mul] at this
            obtain ⟨u, hu, hr⟩ := hcell i j cs x hi hj
            refine ⟨u, ?_, hr⟩
            rw [if_neg (by omega)]; exact hu)
    refine ⟨_, _, C, run _ ?_ (fun _ => rfl), ⟨hm2, hm1.keep, ⟨#[], rfl, rfl, fun j x hj => by simp at hj⟩, res_put_own base h.res ho, fun r hr => by simp [TV.refs] at hr, fun _ hi => hi.1⟩⟩
    rw [hv]
    obtain ⟨m, rfl⟩ := Nat.exists_eq_succ_of_ne_zero h0
    simp [Builtin.clear_, run_underlying hu, zeroValue, typeInfo, hei, hez, hrs]

/-! ### Bytes as a string -/
def toBytes : List (List D) → Option (List UInt8)
  | [] => some []
  | [.int .u8 n] :: l => (toBytes l).map (UInt8.ofNat n.toNat :: ·)
  | _ => none
theorem toBytes_map : ∀ l : List Int, toBytes (l.map (encI .u8)) = some (l.map fun n => UInt8.ofNat n.toNat)
  | [] => rfl
  | n :: l => by simp [toBytes, encI, toBytes_map l]

theorem run_bytesLoop (f : Value → ByteArray → Sem (ForInStep ByteArray)) (hf : ∀ n s, f (.int .u8 n) s = pure (ForInStep.yield (s.push (UInt8.ofNat n.toNat)))) : ∀ (l : List Int) (s : ByteArray),
    (forIn (m := Sem) (l.map (Value.int .u8)) s f).run P w = .ok (s ++ ByteArray.mk (l.map fun n => UInt8.ofNat n.toNat).toArray) w
  | [], s => by
    simp only [List.map_nil, List.forIn_nil, Sem.run_pure]
    congr 1
    apply ByteArray.ext
    simp
  | n :: l, s => by
    simp only [List.map_cons, List.forIn_cons, Sem.run_bind, hf, Sem.run_pure, Result.andThen_ok]
    rw [run_bytesLoop f hf l]
    congr 1
    apply ByteArray.ext
    simp [ByteArray.push]
theorem run_bytesToString {ad : Addr} {l : List Int} {c : Nat} (h : ∀ j n, l[j]? = some n → w.cell? (ad.add j) = some (.int .u8 n)) :
    (Conv.bytesToString (.slice (some ad) l.length c)).run P w = .ok (.string ⟨(l.map fun n => UInt8.ofNat n.toNat).toArray⟩) w := by
  have hl := run_loadCells_list (P := P) w ad (l.map (Value.int .u8)) (fun j v hj => by
    rw [List.getElem?_map, Option.map_eq_some_iff] at hj
    obtain ⟨n, hn, rfl⟩ := hj
    exact h j n hn)
  rw [List.length_map] at hl
  unfold Conv.bytesToString
  simp only [Sem.run_bind, hl, Result.andThen_ok]
  rw [List.forIn_toArray, run_bytesLoop _ (fun n s => rfl)]
  simp only [Result.andThen_ok, Sem.run_pure]
  congr 2

theorem toBytes_spec : ∀ {xs : List (List D)} {s : List UInt8}, toBytes xs = some s → ∃ l : List Int, xs = l.map (encI .u8) ∧ s = l.map fun n => UInt8.ofNat n.toNat
  | [], s, h => by cases h; exact ⟨[], rfl, rfl⟩
  | [.int .u8 n] :: l, s, h => by
    simp only [toBytes, Option.map_eq_some_iff] at h
    obtain ⟨s', h1, rfl⟩ := h
    obtain ⟨l', rfl, rfl⟩ := toBytes_spec h1
    exact ⟨n :: l', rfl, rfl⟩

theorem does_str (hΓ : TypesOk P Γ) {t d et : TypeId} {ti td te : TI} {x : Operand} {tv : TV} {xs : List (List D)} {us : List Nat} {s : List UInt8} (ht : Γ.lookup t = some ti) (hk : ti.kind = .slice et) (hte : Γ.lookup et = some te) (hke : te.kind = .int .u8)
    (htd : Γ.lookup d = some td) (hkd : td.kind = .str) (hx : st.ev x = some tv) (hel : st.elems tv = some (xs, us)) (hs : toBytes xs = some s) (hop : o.op = .convert t d x) :
    Does P o base st ⟨.c (.d (.str s)), [], [], []⟩ := by
  refine does_runs fun B N nt C a w h hN => ?_
  obtain ⟨_, _, q1, _, _, _, _, hu1, _, hk1, _⟩ := TIok.facts (hΓ.ok t ti ht)
  obtain ⟨_, _, q2, _, _, _, _, hu2, _, hk2, _⟩ := TIok.facts (hΓ.ok et te hte)
  obtain ⟨_, _, q3, _, _, _, _, hu3, _, hk3, _⟩ := TIok.facts (hΓ.ok d td htd)
  rw [hk] at hk1; rw [hke] at hk2; rw [hkd] at hk3
  have e1 := kind_slice hk1
  have e2 := kind_int hk2
  have e3 := kind_str hk3
  subst e1 e2 e3
  obtain ⟨l, rfl, rfl⟩ := toBytes_spec hs
  obtain ⟨p, c, hv, hcell⟩ := elems_sound (sz := 1) h (ev_sound h hx).1 hel (fun cs hcs => by obtain ⟨n, _, rfl⟩ := List.mem_map.1 hcs; rfl)
  refine ⟨.string ⟨(l.map fun n => UInt8.ofNat n.toNat).toArray⟩, w, C, ?_, after_d h base (.str _)⟩
  rw [hop]
  refine runs_value fun o' ho' => ?_
  have hr : (Conv.bytesToString (a.eval x)).run P w = .ok (.string ⟨(l.map fun n => UInt8.ofNat n.toNat).toArray⟩) w := by
    rw [hv]
    by_cases hl : l = []
    · subst hl
      cases p with
      | none => simp [Conv.bytesToString]; rfl
      | some ad => exact run_bytesToString (l := []) (fun j n hj => by simp at hj)
    · obtain ⟨ad, rfl, hc⟩ := hcell (by simpa using hl)
      rw [List.length_map]
      refine run_bytesToString fun j n hj => ?_
      obtain ⟨u, hu, hd⟩ := hc j 0 (encI .u8 n) (.int .u8 n) (by rw [List.getElem?_map, hj]; rfl) rfl
      rw [Nat.mul_one, Nat.add_zero] at hu
      rw [hu, drep_int hd]
  simp [execOp, ho', convert, run_underlying hu1, run_underlying hu2, run_underlying hu3, hv]
  rw [hv, List.length_map] at hr
  cases p <;> rw [hr] <;> rfl
end

/-! ### Zeros behind nil -/
section
variable {P : Program} {Γ : Types} {B : Base} {N : Nat → Prop} {nt : Nat} {C : Nat → Option Nat} {st : St} {a : Act} {w : World} {o : Oper} {base : Nat} {e : Eff}
theorem run_append_zeros (t u ty e : TypeId) (k : IntKind) (i : TypeInfo) (z : Value) (ht : P.underlying t = some (.slice e)) (hu : P.underlying u = some (.int k)) (hi : P.info? e = some i) (hz : i.zero = some z)
    (n : Nat) (h0 : 0 < n) (hs : 0 < i.size) (h63 : (n : Int) ≤ 9223372036854775807) (h48 : n * i.bytes ≤ 281474976710656) :
    (Builtin.append_ #[t, u] ty #[.slice none 0 0, .int .i64 n]).run P w =
      .ok (.slice (some ⟨w.heap.size, 0, none⟩) n (grownCap w n 0 e)) (w.drew.alloc (.cells (Builtin.zeroCells z.cells n ++ Builtin.zeroCells z.cells (grownCap w n 0 e - n)) e)) := by
  have hn : n ≠ 0 := by omega
  have h63' : ¬ (9223372036854775807 < (n : Int)) := by omega
  have h48' : ¬ (281474976710656 < Builtin.nextslicecap n 0 * i.bytes) := by rw [nextslicecap_zero h0]; omega
  have hw : IntKind.i64.wrap (n : Int) = n := by
    unfold IntKind.wrap
    simp [IntKind.bits, IntKind.signed]
    omega
  have h48'' : ¬ (281474976710656 < (n : Int) * i.bytes) := by
    have : ((n * i.bytes : Nat) : Int) ≤ 281474976710656 := by omega
    rw [Int.natCast_mul] at this
    omega
  have hnn : ¬ ((n : Int) < 0) := by omega
  have hs0 : ¬ i.size = 0 := by omega
  simp [Builtin.append_, run_underlying ht, run_underlying hu, sizeOf, typeInfo, zeroValue, hi, hz, Builtin.lenOf, hn, h63', h48', h48'', hnn, hw, hs0, asInt, asIntOf, Question.forced, run_firstCells_none, newRow, grownCap]
  intro h
  have : 0 < n * i.size := Nat.mul_pos h0 hs
  omega

theorem does_appz (hΓ : TypesOk P Γ) {t et u : TypeId} {ti te tu : TI} {k : IntKind} {x y : Operand} {n : Int} {z : List D} (ht : Γ.lookup t = some ti) (hk : ti.kind = .slice et) (hte : Γ.lookup et = some te) (htu : Γ.lookup u = some tu) (hku : tu.kind = .int k)
    (hx : st.ev x = some (.c .nil)) (hy : st.ev y = some (.i n)) (hz : toDs te.zero = some z) (hzl : z.length = te.sz) (hn0 : 0 ≤ n) (hn1 : n ≤ (LIM : Int)) (hpos : 0 < te.sz) (hsm : te.bytes ≤ 1024)
    (hop : o.op = .call ⟨.builtin .append, ⟨[x, y]⟩, ⟨[t, u]⟩⟩) :
    Does P o base st ⟨.c (.own base none), [(base, some ⟨et, te.sz, List.replicate n.toNat z⟩)], [], []⟩ := by
  refine does_runs fun B N nt C a w h hN => ?_
  obtain ⟨_, _, q1, _, _, _, _, hu1, _, hk1, _⟩ := TIok.facts (hΓ.ok t ti ht)
  obtain ⟨ei, ez, _, hei, hes, heb, hez, _, hzc, _⟩ := TIok.facts (hΓ.ok et _ hte)
  obtain ⟨_, _, q3, _, _, _, _, hu3, _, hk3, _⟩ := TIok.facts (hΓ.ok u tu htu)
  rw [hk] at hk1; rw [hku] at hk3
  have e1 := kind_slice hk1
  have e3 := kind_int hk3
  subst e1 e3
  obtain ⟨z1, z2, z3⟩ := zcells_sound (w := w) (ok := okOf B st C w) (C := C) (own := st.own) hzc
  obtain ⟨f1, f2, f3⟩ := toDs_sound (w := w) (ok := okOf B st C w) (C := C) (own := st.own) hz
  have hezs : ez.cells.size = te.sz := by have : ez.cells.toList.length = te.zero.length := z1; simp at this; omega
  have hv : a.eval x = .slice none 0 0 := (ev_sound h hx).1
  have hvy : a.eval y = .int .i64 n := rep_int (ev_sound h hy).1
  have run : ∀ v w', (∀ ty, (Builtin.append_ #[t, u] ty #[.slice none 0 0, .int .i64 n]).run P w = .ok v w') → Runs P o.op a w v w' := fun v w' hr => by
    rw [hop]
    exact builtin_runs _ _ (fun ty => Builtin.append_ #[t, u] ty #[a.eval x, a.eval y]) (fun _ _ => rfl) fun ty => by rw [hv, hvy]; exact hr ty
  obtain ⟨m, rfl⟩ : ∃ m : Nat, n = m := ⟨n.toNat, by omega⟩
  simp only [LIM] at hn1
  by_cases h0 : m = 0
  · subst h0
    obtain ⟨m1, m2⟩ := h.toMm.new_nil (e := ⟨et, te.sz, []⟩) h.res h.ancN (hN 0 (by omega)) hpos rfl
    refine ⟨.slice none 0 0, w, _, run _ _ (fun ty => ?_), ⟨m2, m1.keep, .inl ⟨upd_same _ _ _, rfl, fun e he => by
      have he2 : upd st.own base _ base = some e := he
      rw [upd_same] at he2; injection he2 with he2; subst he2; rfl⟩, res_new_own h.res, own_vres (u := []), fun _ hi => hi.1⟩⟩
    have hw : IntKind.i64.wrap 0 = 0 := rfl
    simp [Builtin.append_, run_underlying hu1, run_underlying hu3, sizeOf, typeInfo, hei, asInt, asIntOf, hw]
  · have hb : m * ei.bytes ≤ 281474976710656 := by rw [heb]; exact Nat.le_trans (Nat.mul_le_mul (show m ≤ 137438953472 by omega) hsm) (by omega)
    have hrun := fun ty => run_append_zeros (P := P) (w := w) t u ty et k ei ez hu1 hu3 hei hez m (by omega) (by rw [hes]; exact hpos) (by omega) hb
    have hge := grownCap_ge w m 0 et
    have hcm := grownCap_le_maxLen w m 0 et (by simp [maxLen]; omega)
    have hl : (List.replicate (m : Int).toNat z).length = m := by simp
    have hfin := after_new_own (e := ⟨et, te.sz, List.replicate (m : Int).toNat z⟩) (us := []) (c := grownCap w m 0 et) h hN (w' := w.drew.alloc (.cells (Builtin.zeroCells ez.cells m ++ Builtin.zeroCells ez.cells (grownCap w m 0 et - m)) et)) ⟨rfl, rfl, rfl, rfl⟩ hpos
      (by simp [size_zeroCells, hezs, ← Nat.add_mul]; congr 1; omega) (by rw [hl]; exact hge) (by simpa [maxLen] using hcm) (fun cs hcs => by rw [(List.mem_replicate.1 hcs).2]; exact hzl)
      (fun i j cs x hi hj => by
        obtain ⟨hi1, hi2⟩ := List.getElem?_eq_some_iff.1 hi
        simp at hi1 hi2
        subst hi2
        obtain ⟨c, hc, hcr⟩ := f3 j x hj
        obtain ⟨u, hu, hur⟩ := z3 j c hc
        refine ⟨u, ?_, hcr u hur⟩
        have hjl : j < te.sz := by rw [← hzl]; exact (List.getElem?_eq_some_iff.1 hj).1
        have hlt : i * te.sz + j < m * te.sz := by
          have : (i + 1) * te.sz ≤ m * te.sz := Nat.mul_le_mul_right _ (by omega)
          rw [Nat.add_mul, Nat.one_mul] at this
          omega
        rw [Array.getElem?_append_left (by rw [size_zeroCells, hezs]; exact hlt)]
        simp only [Builtin.zeroCells, Array.getElem?_map]
        rw [hezs, Array.getElem?_range, if_pos hlt]
        have hmod : (i * te.sz + j) % te.sz = j := by rw [Nat.mul_comm, Nat.mul_add_mod]; exact Nat.mod_eq_of_lt hjl
        simp only [Option.map_some, hmod]
        have hu' : ez.cells[j]? = some u := by simpa using hu
        rw [getElem!_def, hu'])
    rw [hl] at hfin
    exact ⟨_, _, _, run _ _ hrun, hfin⟩
end

/-! ### The rules of a walk -/
section
variable {P : Program} {Γ : Types} {A nt : Nat} {ops : Array Oper} {base k : Nat} {o : Oper} {l : List Oper} {K : St → Prop} {st : St} {α : Type}
theorem aDo {e : Eff} (hd : Does P o (base + 1000 * k) st e) (hn : Aops P nt ops base (k + 1) l K (st.app o.dst ⟨e.v, e.ou, e.bu, []⟩))
    (hg : (dstOk nt o.dst && guardT ops o st) = true) : Aops P nt ops base k (o :: l) K st := by
  rw [Bool.and_eq_true] at hg
  exact aops_do (guardT_spec hg.2) (dstOk_spec hg.1) (does_use hd) hn
def isNil (st : St) (x : Operand) : Bool := match st.ev x with
  | some (.v (.one .nil)) => true
  | _ => false
theorem isNil_spec {x : Operand} (h : isNil st x = true) : st.ev x = some (.c .nil) := by
  unfold isNil at h
  split at h
  · rename_i h1; exact h1
  · cases h
/-- The capacity of nil. -/
theorem aK [hΓ : TOk P Γ] {t : TypeId} {x : Operand} (ho : o.op = .call ⟨.builtin .cap, ⟨[x]⟩, ⟨[t]⟩⟩) (hn : Aops P nt ops base (k + 1) l K (st.app o.dst ⟨.i 0, [], [], []⟩))
    (hc : (slB Γ t && isNil st x) = true := by kernel_rfl) (hg : (dstOk nt o.dst && guardT ops o st) = true := by kernel_rfl) : Aops P nt ops base k (o :: l) K st := by
  rw [Bool.and_eq_true] at hc
  obtain ⟨ti, a1, a2, a3⟩ := slB_spec hc.1
  exact aDo (does_cap0 hΓ.ok a1 a2 (isNil_spec hc.2) ho) hn hg
/-- A part of nil. -/
theorem aSn [hΓ : TOk P Γ] {t : TypeId} {x : Operand} {lo hi : Option Operand} (ho : o.op = .slice t x lo hi none) (hn : Aops P nt ops base (k + 1) l K (st.app o.dst ⟨.c .nil, [], [], []⟩))
    (hc : (slB Γ t && isNil st x, aeff.bnd st lo 0, aeff.bnd st hi 0) = (true, some 0, some 0) := by kernel_rfl) (hg : (dstOk nt o.dst && guardT ops o st) = true := by kernel_rfl) : Aops P nt ops base k (o :: l) K st := by
  injection hc with h1 hc; injection hc with h2 h3
  rw [Bool.and_eq_true] at h1
  obtain ⟨ti, a1, a2, a3⟩ := slB_spec h1.1
  exact aDo (does_slnil hΓ.ok a1 a2 a3 (isNil_spec h1.2) h2 h3 ho) hn hg
/-- A part is cleared. -/
theorem aCl [hΓ : TOk P Γ] (f : α → List D) (id : Nat) {t : TypeId} {x : Operand} {xs : List α} {y : α} {lo hi : Int} (ho : o.op = .call ⟨.builtin .clear, ⟨[x]⟩, ⟨[t]⟩⟩)
    (hn : Aops P nt ops base (k + 1) l K (st.app o.dst ⟨.tup [], [(id, some ⟨slE Γ t, (slT Γ t).sz, (xs.take lo.toNat ++ (List.replicate (hi.toNat - lo.toNat) y ++ xs.drop (lo.toNat + (hi.toNat - lo.toNat)))).map f⟩)], [], []⟩))
    (hc : (slB Γ t, evV st x, toDs (slT Γ t).zero, (slT Γ t).sz) = (true, some (id, lo.toNat, hi.toNat - lo.toNat, ⟨slE Γ t, (slT Γ t).sz, xs.map f⟩), some (f y), (f y).length) := by kernel_rfl) (hg : (dstOk nt o.dst && guardT ops o st) = true := by kernel_rfl) :
    Aops P nt ops base k (o :: l) K st := by
  injection hc with h1 hc; injection hc with h2 hc; injection hc with h3 h4
  obtain ⟨ti, a1, a2, a3⟩ := slB_spec h1
  obtain ⟨b1, b2⟩ := evV_spec h2
  have hd := does_clear (P := P) (base := base + 1000 * k) hΓ.ok a1 a2 a3 b1 b2 h3 h4.symm rfl ho
  refine aDo hd ?_ hg
  have e : (⟨slE Γ t, (slT Γ t).sz, xs.map f⟩ : OwnB).xs.take lo.toNat ++ (List.replicate (hi.toNat - lo.toNat) (f y) ++ (⟨slE Γ t, (slT Γ t).sz, xs.map f⟩ : OwnB).xs.drop (lo.toNat + (hi.toNat - lo.toNat))) = (xs.take lo.toNat ++ (List.replicate (hi.toNat - lo.toNat) y ++ xs.drop (lo.toNat + (hi.toNat - lo.toNat)))).map f := by
    simp [List.map_take, List.map_drop]
  rw [e]
  exact hn
def u8B (Γ : Types) (t : TypeId) : Bool := match (slT Γ t).kind with
  | .int .u8 => true
  | _ => false
theorem u8B_spec {t : TypeId} (h : u8B Γ t = true) : (slT Γ t).kind = .int .u8 := by
  unfold u8B at h
  split at h
  · assumption
  · cases h
/-- Bytes become a string. -/
theorem aSt [hΓ : TOk P Γ] {t d : TypeId} {x : Operand} {xs : List Int} {Y : List (List D)} (ho : o.op = .convert t d x) (hY : Y = xs.map (encI .u8))
    (hn : Aops P nt ops base (k + 1) l K (st.app o.dst ⟨.c (.d (.str (xs.map fun n => UInt8.ofNat n.toNat))), [], [], []⟩))
    (hc : (slB Γ t && u8B Γ t && strB Γ d, apY st x) = (true, some Y) := by kernel_rfl) (hg : (dstOk nt o.dst && guardT ops o st) = true := by kernel_rfl) : Aops P nt ops base k (o :: l) K st := by
  subst hY
  injection hc with h1 h2
  simp only [Bool.and_eq_true] at h1
  obtain ⟨ti, a1, a2, a3⟩ := slB_spec h1.1.1
  obtain ⟨td, b1, b2⟩ := strB_spec h1.2
  obtain ⟨tv, c1, c2⟩ := apY_spec h2
  exact aDo (does_str hΓ.ok a1 a2 a3 (u8B_spec h1.1.2) b1 b2 c1 c2 (toBytes_map xs) ho) hn hg
def intB (Γ : Types) (t : TypeId) : Bool := match Γ.lookup t with
  | some ti => match ti.kind with
    | .int _ => true
    | _ => false
  | none => false
theorem intB_spec {t : TypeId} (h : intB Γ t = true) : ∃ ti k, Γ.lookup t = some ti ∧ ti.kind = .int k := by
  unfold intB at h
  split at h
  · rename_i ti h1
    split at h
    · rename_i k hk; exact ⟨ti, k, h1, hk⟩
    · cases h
  · cases h
/-- Zeros are put behind nil. -/
theorem aZ [hΓ : TOk P Γ] (f : α → List D) (y : α) {t u : TypeId} {x m : Operand} {n : Int} (h : (decide (0 ≤ n) && decide (n ≤ 137438953472)) = true) (ho : o.op = .call ⟨.builtin .append, ⟨[x, m]⟩, ⟨[t, u]⟩⟩)
    (hn : Aops P nt ops base (k + 1) l K (st.app o.dst ⟨.c (.own (base + 1000 * k) none), [(base + 1000 * k, some ⟨slE Γ t, (slT Γ t).sz, (List.replicate n.toNat y).map f⟩)], [], []⟩))
    (hc : (slB Γ t && isNil st x && intB Γ u, evJ st m, toDs (slT Γ t).zero, Nat.ble (slT Γ t).bytes 1024 && Nat.blt 0 (slT Γ t).sz, (slT Γ t).sz) = (true, some n, some (f y), true, (f y).length) := by kernel_rfl)
    (hg : (dstOk nt o.dst && guardT ops o st) = true := by kernel_rfl) : Aops P nt ops base k (o :: l) K st := by
  injection hc with h1 hc; injection hc with h2 hc; injection hc with h3 hc; injection hc with h4 h5
  simp only [Bool.and_eq_true, decide_eq_true_eq] at h h1
  simp only [Bool.and_eq_true, Nat.blt_eq, Nat.ble_eq] at h4
  obtain ⟨ti, a1, a2, a3⟩ := slB_spec h1.1.1
  obtain ⟨tu, ku, b1, b2⟩ := intB_spec h1.2
  have hd := does_appz (P := P) (base := base + 1000 * k) hΓ.ok a1 a2 a3 b1 b2 (isNil_spec h1.1.2) (evJ_spec h2) h3 h5.symm h.1 (by unfold LIM; exact h.2) h4.2 h4.1 ho
  refine aDo hd ?_ hg
  rw [List.map_replicate] at hn
  exact hn
end
end Go.Eng
