/-
Each operation of the model does what the reckoned effect says: operators, fields, indexes.
-/
import Derived.Test.YtnnadlpfbfajdaaGreatDoorEngD
import Derived.Laws.Bits
import Derived.Laws.Small
import Derived.Laws.StructEq
import Derived.Laws.Strings
namespace Go.Eng
open Go
set_option linter.unusedVariables false
set_option linter.unusedSimpArgs false

section
variable {P : Program} {Γ : Types} {B : Base} {N : Nat → Prop} {nt : Nat} {C : Nat → Option Nat} {st : St} {a : Act} {w : World}

theorem baToList (s : List UInt8) : (ByteArray.mk s.toArray).toList = s := by rw [ByteArray.toList_eq]
theorem baSize (s : List UInt8) : (ByteArray.mk s.toArray).size = s.length := by simp [ByteArray.size]
theorem baAppend (s t : List UInt8) : ByteArray.mk s.toArray ++ ByteArray.mk t.toArray = ByteArray.mk (s ++ t).toArray := by
  apply ByteArray.ext; simp

theorem drep_int {ok : Nat → Prop} {k : IntKind} {n : Int} {v : Value} (h : DRep w ok (.int k n) v) : v = .int k n := by cases h; rfl
theorem drep_bool {ok : Nat → Prop} {b : Bool} {v : Value} (h : DRep w ok (.bool b) v) : v = .bool b := by cases h; rfl
theorem drep_str {ok : Nat → Prop} {s : List UInt8} {v : Value} (h : DRep w ok (.str s) v) : v = .string ⟨s.toArray⟩ := by cases h; rfl

theorem abin_sound {op : BinOp} {x y z : D} {u v : Value} {ok : Nat → Prop} (h : abin op x y = some z) (hx : DRep w ok x u) (hy : DRep w ok y v) (t : TypeId) (o1 o2 : Operand)
    (hk : ∀ b b', x = .bool b → y = .bool b' → P.underlying t = some .bool) :
    ∃ r, DRep w ok z r ∧ (do eqGuard op t o1 o2 u v; binOp op t u v : Sem Value).run P w = .ok r w := by
  cases x with
  | lst xs => simp [abin] at h
  | int k m =>
    cases y with
    | int k' n =>
      rw [drep_int hx, drep_int hy]
      unfold abin at h
      cases op <;> simp only [reduceIte] at h
      case shl =>
        split at h
        · cases h
        · rename_i hn; injection h with h; subst h
          exact ⟨_, .int _ _, by simp [eqGuard_shl, binOp_shl, Op.shift, hn, ishl]⟩
      case shr =>
        split at h
        · cases h
        · rename_i hn; injection h with h; subst h
          exact ⟨_, .int _ _, by simp [eqGuard_shr, binOp_shr, Op.shift, hn, ishr]⟩
      all_goals
        split at h
        case isFalse => cases h
        rename_i hkk
        subst hkk
      case int.int.add.isTrue => injection h with h; subst h; exact ⟨_, .int _ _, by simp [eqGuard_add, binOp_add, Op.intArith]⟩
      case int.int.sub.isTrue => injection h with h; subst h; exact ⟨_, .int _ _, by simp [eqGuard_sub, binOp_sub, Op.intArith]⟩
      case int.int.mul.isTrue => injection h with h; subst h; exact ⟨_, .int _ _, by simp [eqGuard_mul, binOp_mul, Op.intArith]⟩
      case int.int.quo.isTrue =>
        split at h
        · cases h
        · rename_i hn; injection h with h; subst h
          exact ⟨_, .int _ _, by simp [eqGuard_quo, binOp_quo, Op.intDiv, hn]⟩
      case int.int.rem.isTrue =>
        split at h
        · cases h
        · rename_i hn; injection h with h; subst h
          exact ⟨_, .int _ _, by simp [eqGuard_rem, binOp_rem, Op.intDiv, hn]⟩
      case int.int.and.isTrue => injection h with h; subst h; exact ⟨_, .int _ _, by simp [eqGuard_and, binOp_and, Op.intBits, ibits]⟩
      case int.int.or.isTrue => injection h with h; subst h; exact ⟨_, .int _ _, by simp [eqGuard_or, binOp_or, Op.intBits, ibits]⟩
      case int.int.xor.isTrue => injection h with h; subst h; exact ⟨_, .int _ _, by simp [eqGuard_xor, binOp_xor, Op.intBits, ibits]⟩
      case int.int.andNot.isTrue => injection h with h; subst h; exact ⟨_, .int _ _, by simp [eqGuard_andNot, binOp_andNot, Op.intBits, ibits]⟩
      case int.int.eql.isTrue => injection h with h; subst h; exact ⟨_, .bool _, by simp [eqGuard_at_int, binOp_eql]; rfl⟩
      case int.int.neq.isTrue => injection h with h; subst h; exact ⟨_, .bool _, by simp [eqGuard_at_int, binOp_neq]; rfl⟩
      case int.int.lss.isTrue => injection h with h; subst h; exact ⟨_, .bool _, by simp [eqGuard_lss, binOp_lss]⟩
      case int.int.leq.isTrue => injection h with h; subst h; exact ⟨_, .bool _, by simp [eqGuard_leq, binOp_leq]⟩
      case int.int.gtr.isTrue => injection h with h; subst h; exact ⟨_, .bool _, by simp [eqGuard_gtr, binOp_gtr]⟩
      case int.int.geq.isTrue => injection h with h; subst h; exact ⟨_, .bool _, by simp [eqGuard_geq, binOp_geq]⟩
    | _ => simp [abin] at h
  | bool b =>
    cases y with
    | bool b' =>
      have hu := hk b b' rfl rfl
      rw [drep_bool hx, drep_bool hy]
      cases op <;> simp only [abin, Option.some.injEq] at h <;> first | cases h | subst h
      · exact ⟨_, .bool _, by simp only [eqGuard_at_bool, Sem.run_bind, Sem.run_pure, Result.andThen_ok]; rw [run_eql_bool _ _ _ _ hu]⟩
      · exact ⟨_, .bool _, by simp only [eqGuard_at_bool, Sem.run_bind, Sem.run_pure, Result.andThen_ok]; rw [run_neq_bool _ _ _ _ hu]; rfl⟩
    | _ => simp [abin] at h
  | str s =>
    cases y with
    | str s' =>
      rw [drep_str hx, drep_str hy]
      cases op <;> simp only [abin, Option.some.injEq] at h <;> first | cases h | skip
      case add =>
        split at h
        · rename_i hl; injection h with h; subst h
          refine ⟨_, .str _, ?_⟩
          have hl' : ¬ (9223372036854775807 < ((s.length : Int) + (s'.length : Int))) := by simp only [LIM] at hl; omega
          have hm : IntKind.max .i64 = 9223372036854775807 := by decide
          simp [eqGuard_at_string, binOp, Op.stringOp, baSize, baAppend, hl', hm]
        · cases h
      all_goals
        refine ⟨_, .bool _, ?_⟩
        simp [eqGuard_at_string, binOp, Op.stringOp, baToList]
      all_goals (first | done | rfl | (congr 2; rw [Bool.eq_iff_iff]; simp))
    | _ => simp [abin] at h

theorem kind_bool {d : TypeDesc} (h : kindOk (some d) .bool = true) : d = .bool := by cases d <;> simp [kindOk] at h; rfl
theorem kind_str {d : TypeDesc} (h : kindOk (some d) .str = true) : d = .string := by cases d <;> simp [kindOk] at h; rfl
theorem kind_int {d : TypeDesc} {k : IntKind} (h : kindOk (some d) (.int k) = true) : d = .int k := by cases d <;> simp [kindOk] at h; subst h; rfl
theorem kind_ptr {d : TypeDesc} (h : kindOk (some d) .ptr = true) : ∃ e, d = .pointer e := by cases d <;> simp [kindOk] at h; exact ⟨_, rfl⟩
theorem kind_array {d : TypeDesc} {n : Nat} {e : TypeId} (h : kindOk (some d) (.array n e) = true) : d = .array n e := by cases d <;> simp [kindOk] at h; obtain ⟨rfl, rfl⟩ := h; rfl
theorem kind_map {d : TypeDesc} {k e : TypeId} (h : kindOk (some d) (.map k e) = true) : d = .map k e := by cases d <;> simp [kindOk] at h; obtain ⟨rfl, rfl⟩ := h; rfl
theorem kind_slice {d : TypeDesc} {e : TypeId} (h : kindOk (some d) (.slice e) = true) : d = .slice e := by cases d <;> simp [kindOk] at h; subst h; rfl
theorem kind_struct {d : TypeDesc} {l : List (Nat × TypeId)} (h : kindOk (some d) (.struct l) = true) : ∃ fs : Array Field, d = .struct fs ∧ fs.toList.map (fun f => (f.offset, f.type)) = l := by
  cases d <;> simp [kindOk] at h; exact ⟨_, rfl, h⟩

end
end Go.Eng
