/-
More operations: interfaces that are nil, counting a byte, a string as bytes.
-/
import Derived.Test.YtnnadlpfbfajdaaGreatDoorEng1
import Derived.Laws.IdiomStrings
import Derived.Lib.Bytealg
namespace Go.Eng
open Go
set_option linter.unusedVariables false
set_option linter.unusedSimpArgs false

section
variable {P : Program} {Γ : Types} {B : Base} {N : Nat → Prop} {nt : Nat} {C : Nat → Option Nat} {st : St} {a : Act} {w : World} {o : Oper} {base : Nat} {e : Eff} {ops : Array Oper} {U : List Nat} {V : St → Prop}

/-! ### An interface that is nil -/
def isIface (P : Program) (t : TypeId) : Bool := match P.underlying t with
  | some (.interface _) => true
  | _ => false
theorem isIface_spec {t : TypeId} (h : isIface P t = true) : ∃ ms, P.underlying t = some (.interface ms) := by
  unfold isIface at h
  split at h
  · exact ⟨_, by assumption⟩
  · cases h
theorem equal_nilI {t : TypeId} (hi : isIface P t = true) : (Op.equal t .nilIface .nilIface).run P w = .ok true w := by
  obtain ⟨ms, hu⟩ := isIface_spec hi
  show (Op.equalIn (9999 + 1) t .nilIface .nilIface).run P w = _
  rw [Op.equalIn]
  simp [run_underlying hu]
theorem does_nilI {op : BinOp} {t t' : TypeId} {x : Operand} {c : Bool} (ho : o.op = .binOp op t x (.const .nilIface) t') (hop : (op = .eql ∧ c = true) ∨ (op = .neq ∧ c = false)) (hx : st.ev x = some (.c .nili))
    (hi : isIface P t = true) : Does P o base st ⟨.b c, [], [], []⟩ := by
  refine does_runs fun B N nt C a w h hN => ?_
  have hv : a.eval x = .nilIface := (ev_sound h hx).1
  have hq := equal_nilI (P := P) (w := w) hi
  refine ⟨.bool c, w, C, ?_, after_d h base (.bool _)⟩
  rw [ho]
  refine runs_value fun o' ho' => ?_
  rcases hop with ⟨rfl, rfl⟩ | ⟨rfl, rfl⟩
  · have h1 : (eqGuard .eql t x (.const .nilIface) .nilIface .nilIface).run P w = .ok () w := by
      simp [eqGuard]
    simp only [execOp, ho', hv]
    show ((do eqGuard .eql t x (.const .nilIface) .nilIface .nilIface; binOp .eql t .nilIface .nilIface : Sem Value) >>= fun v => pure (Next.value v) : Sem Next).run P w = _
    rw [Sem.run_bind, Sem.run_bind, h1, Result.andThen_ok]
    show Result.andThen ((do pure (.bool (← Op.equal t .nilIface .nilIface)) : Sem Value).run P w) _ = _
    rw [Sem.run_bind, hq]; rfl
  · have h1 : (eqGuard .neq t x (.const .nilIface) .nilIface .nilIface).run P w = .ok () w := by
      simp [eqGuard]
    simp only [execOp, ho', hv]
    show ((do eqGuard .neq t x (.const .nilIface) .nilIface .nilIface; binOp .neq t .nilIface .nilIface : Sem Value) >>= fun v => pure (Next.value v) : Sem Next).run P w = _
    rw [Sem.run_bind, Sem.run_bind, h1, Result.andThen_ok]
    show Result.andThen ((do pure (.bool (!(← Op.equal t .nilIface .nilIface))) : Sem Value).run P w) _ = _
    rw [Sem.run_bind, hq]; rfl
theorem stable_nilI {op : BinOp} {t t' : TypeId} {x : Operand} {c : Bool} (ho : o.op = .binOp op t x (.const .nilIface) t') (hop : (op = .eql ∧ c = true) ∨ (op = .neq ∧ c = false)) (hx : st.ev x = some (.c .nili))
    (hi : isIface P t = true) : Stable V P ops o base st ⟨.b c, [], [], []⟩ U := fun σ hσ _ =>
  does_nilI ho hop ((agree_ev hσ x (by rw [ho]; simp [Op.operands])).trans hx) hi

/-! ### How often a byte is there -/
theorem does_count {g : FuncId} {fn : Func} {args : Array Operand} {tys : Array TypeId} {a : List UInt8} {c : Int} (ho : o.op = .call ⟨.value (.func g), args, tys⟩) (hf : P.funcs[g]? = some fn)
    (hn : (fn.name == "runtime.NumGoroutine") = false) (hb : fn.body.isNone = true) (hx : Extern.findNext fn = none) (he : Extern.find fn = some Extern.BytealgCount.count) (ha : st.evs args.toList = some [.c (.d (.str a)), .int .u8 c]) :
    Does P o base st ⟨.i (countB a c.toNat.toUInt8), [], [], []⟩ := by
  refine does_ext ho hf hn hb hx he ha rfl fun w ok C own vs hs hv => ?_
  obtain ⟨x, hx1, hx2⟩ := hv 0 _ rfl
  obtain ⟨y, hy1, hy2⟩ := hv 1 _ rfl
  rw [arr2 hs hx1 hy1, str_get hx2, int_get hy2]
  refine ⟨_, Lib.run_countString _ _ w, ?_⟩
  exact DRep.int .i64 _

/-! ### A string as bytes -/
theorem Moves.new_data {o : Obj} {w' : World} (h : Mm B C st w) (hn : New1 w o w') : Moves B N C st w C st w' :=
  ⟨fun b hb => hn.old hb.1, fun b hb => ⟨by have := hb.1; simp [hn.heap]; omega, hb.2.1, hb.2.2⟩, fun _ _ => rfl,
   fun _ _ e' he => ⟨e', he, rfl, rfl, rfl, fun b arr _ h => ⟨arr, (hn.old ((Array.getElem?_eq_some_iff.1 h).1)).trans h, rfl⟩⟩⟩
theorem Mm.new_data {o : Obj} {w' : World} (h : Mm B C st w) (hr : Res N st) (hanc : ∀ id ∈ B.anc, ¬ N id) (hn : New1 w o w') : Mm B C st w' :=
  h.step hr (Moves.new_data (N := N) h hn) (h.fr.new1 hn) hanc
    (fun j e' he => .inl ⟨he, fun b hb => hn.old (h.block_lt (.inl (by rw [he]; simp)) hb)⟩)
    (fun j cs he => .inl ⟨he, fun b hb => hn.old (h.block_lt (.inr (by rw [he]; simp)) hb)⟩) h.excl h.inj h.wr h.nb

theorem does_sb (hΓ : TypesOk P Γ) {s t e : TypeId} {ts tt te : TI} {x : Operand} {l : List UInt8} (hs : Γ.lookup s = some ts) (hks : ts.kind = .str) (ht : Γ.lookup t = some tt) (hkt : tt.kind = .slice e) (hte : Γ.lookup e = some te) (hke : te.kind = .int .u8)
    (hx : st.ev x = some (.c (.d (.str l)))) (hop : o.op = .convert s t x) :
    Does P o base st ⟨.c (.d (.lst ((bytesD l).map (encI .u8)))), [], [], []⟩ := by
  refine does_runs fun B N nt C a w h hN => ?_
  obtain ⟨_, _, q1, _, _, _, _, hu1, _, hk1, _⟩ := TIok.facts (hΓ.ok s ts hs)
  obtain ⟨_, _, q2, _, _, _, _, hu2, _, hk2, _⟩ := TIok.facts (hΓ.ok t tt ht)
  obtain ⟨_, _, q3, _, _, _, _, hu3, _, hk3, _⟩ := TIok.facts (hΓ.ok e te hte)
  rw [hks] at hk1; rw [hkt] at hk2; rw [hke] at hk3
  have e1 := kind_str hk1
  have e2 := kind_slice hk2
  have e3 := kind_int hk3
  subst e1 e2 e3
  have hv : a.eval x = .string ⟨l.toArray⟩ := rep_str (ev_sound h hx).1
  have hrun := run_bytes_of_string (P := P) w s t e ⟨l.toArray⟩ hu1 hu2 hu3
  have hsz : (ByteArray.mk l.toArray).size = l.length := by simp [ByteArray.size]
  rw [hsz] at hrun
  obtain ⟨cp, hcp⟩ : ∃ cp, cp = grownCap w l.length 0 e := ⟨_, rfl⟩
  have hge : l.length ≤ cp := by rw [hcp]; exact grownCap_ge w l.length 0 e
  rw [← hcp] at hrun
  obtain ⟨row, hrow⟩ : ∃ row, row = bytesRow ⟨l.toArray⟩ cp := ⟨_, rfl⟩
  rw [← hrow] at hrun
  have hat : ∀ (i : Nat) (c : UInt8), l[i]? = some c → row[i]? = some (.int .u8 (c.toNat : Int)) := by
    intro i c hi
    have hlt := (List.getElem?_eq_some_iff.1 hi).1
    rw [hrow]
    unfold bytesRow
    rw [Array.getElem?_append_left (by simpa using hlt)]
    simp [hi]
  have hn1 : New1 w (.cells row e (row.size, row.size + 1)) (w.drew.alloc (.cells row e (row.size, row.size + 1))) := ⟨rfl, rfl, rfl, rfl⟩
  have hm := h.toMm.new_data h.res h.ancN hn1
  refine ⟨.slice (some ⟨w.heap.size, 0, none⟩) l.length cp, _, C, ?_, ⟨hm, (Moves.new_data (N := N) h.toMm hn1).keep, ?_, h.res.less fun _ hi => hi.1, fun r hr => by simp [TV.refs, T1.refs, Cell.refs] at hr, fun _ hi => hi.1⟩⟩
  · rw [hop]
    refine runs_value fun o' ho' => ?_
    simp only [execOp, ho', hv]
    rw [Sem.run_bind, hrun]; rfl
  · show DRep _ _ (.lst ((bytesD l).map (encI .u8))) (.slice (some ⟨w.heap.size, 0, none⟩) l.length cp)
    have hlen : ((bytesD l).map (encI .u8)).length = l.length := by simp [bytesD]
    by_cases h0 : l = []
    · subst h0; exact .lnil _ _
    · have hok : okOf B (st.mem ⟨.c (.d (.lst ((bytesD l).map (encI .u8)))), [], [], []⟩) C (w.drew.alloc (.cells row e (row.size, row.size + 1))) w.heap.size := by
        refine ⟨by rw [hn1.heap]; simp, fun hb => ?_, fun id hl hc => ?_⟩
        · have := h.badlt.lt _ hb; have := h.fr.size; omega
        · exact absurd (h.block_lt hl hc) (Nat.lt_irrefl _)
      have key := DRep.lst (w := w.drew.alloc (.cells row e (row.size, row.size + 1))) (ok := okOf B (st.mem ⟨.c (.d (.lst ((bytesD l).map (encI .u8)))), [], [], []⟩) C (w.drew.alloc (.cells row e (row.size, row.size + 1))))
        ((bytesD l).map (encI .u8)) ⟨w.heap.size, 0, none⟩ cp 1 (fun i j => .int .u8 ((bytesD l)[i]?.getD 0)) (by simpa [bytesD] using h0) (by rw [hlen]; exact hge) hok
        (fun cs hcs => by obtain ⟨n, _, rfl⟩ := List.mem_map.1 hcs; rfl)
        (fun i j cs x hi hj => by
          rw [List.getElem?_map, Option.map_eq_some_iff] at hi
          obtain ⟨n, hn, rfl⟩ := hi
          have hj0 : j = 0 := by
            have := (List.getElem?_eq_some_iff.1 hj).1
            simpa [encI] using this
          subst hj0
          unfold bytesD at hn
          rw [List.getElem?_map, Option.map_eq_some_iff] at hn
          obtain ⟨c, hc, rfl⟩ := hn
          have hadd : (⟨w.heap.size, 0, none⟩ : Addr).add (i * 1 + 0) = ⟨w.heap.size, i, none⟩ := by
            unfold Addr.add
            split <;> simp_all
          rw [hadd]
          have := World.cell?_alloc_mark w.drew row e (row.size, row.size + 1) i
          have hb : (bytesD l)[i]?.getD 0 = (c.toNat : Int) := by unfold bytesD; rw [List.getElem?_map, hc]; rfl
          rw [hb]
          exact this.trans (hat i c hc))
        (fun i j cs x hi hj => by
          rw [List.getElem?_map, Option.map_eq_some_iff] at hi
          obtain ⟨n, hn, rfl⟩ := hi
          have hj0 : j = 0 := by
            have := (List.getElem?_eq_some_iff.1 hj).1
            simpa [encI] using this
          subst hj0
          have hx : x = .int .u8 n := by simpa [encI] using hj.symm
          subst hx
          rw [hn]
          exact .int .u8 _)
      rw [hlen] at key
      exact key
end

/-! ### The rules of a walk -/
section
variable {P : Program} {Γ : Types} {A nt : Nat} {ops : Array Oper} {base k : Nat} {o : Oper} {l : List Oper} {K : St → Prop} {st : St}
/-- A string becomes bytes. -/
theorem aBs [hΓ : TOk P Γ] {t d : TypeId} {x : Operand} {s : List UInt8} (ho : o.op = .convert t d x)
    (hn : Aops P nt ops base (k + 1) l K (st.app o.dst ⟨.c (.d (.lst ((bytesD s).map (encI .u8)))), [], [], []⟩))
    (hc : (slB Γ d && u8B Γ d && strB Γ t, evS st x) = (true, some s) := by kernel_rfl) (hg : (dstOk nt o.dst && guardT ops o st) = true := by kernel_rfl) : Aops P nt ops base k (o :: l) K st := by
  injection hc with h1 h2
  simp only [Bool.and_eq_true] at h1
  obtain ⟨ti, a1, a2, a3⟩ := slB_spec h1.1.1
  obtain ⟨td, b1, b2⟩ := strB_spec h1.2
  exact aDo (does_sb hΓ.ok b1 b2 a1 a2 a3 (u8B_spec h1.1.2) (evS_spec h2) ho) hn hg
end
end Go.Eng
