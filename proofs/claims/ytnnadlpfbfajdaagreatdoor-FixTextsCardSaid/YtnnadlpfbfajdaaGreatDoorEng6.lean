/-
Maps of plain keys and values: reading and writing, in the form of the rules whose state is computed.
-/
import Derived.Test.YtnnadlpfbfajdaaGreatDoorEng4
namespace Go.Eng
open Go
set_option linter.unusedVariables false
set_option linter.unusedSimpArgs false
set_option linter.unusedSectionVars false

section
variable {κ β : Type} [DecidableEq κ]
def encM (fk : κ → D) (fv : β → List D) (e : κ × β) : List D × List D := ([fk e.1], fv e.2)
/-- the key's datum tells keys apart -/
class KeyC (fk : κ → D) : Prop where
  tell : ∀ a b, keq1 (fk a) (fk b) = decide (a = b)
theorem keq_one {fk : κ → D} [h : KeyC fk] (a b : κ) : keq [fk a] [fk b] = decide (a = b) := by
  show (keq1 (fk a) (fk b) && true) = _
  rw [h.tell, Bool.and_true]
theorem mget_map {fk : κ → D} [KeyC fk] {fv : β → List D} (k : κ) : ∀ (l : List (κ × β)), mget (l.map (encM fk fv)) [fk k] = (aget l k).map fv
  | [] => rfl
  | e :: l => by
    have ih := mget_map (fk := fk) (fv := fv) k l
    unfold mget aget at ih ⊢
    rw [List.map_cons, List.find?_cons, List.find?_cons]
    have : keq [fk k] (encM fk fv e).1 = decide (k = e.1) := keq_one k e.1
    rw [this]
    cases decide (k = e.1) with
    | true => rfl
    | false => exact ih
theorem any_map {fk : κ → D} [KeyC fk] {fv : β → List D} (k : κ) : ∀ (l : List (κ × β)), ((l.map (encM fk fv)).any fun e => keq [fk k] e.1) = l.any fun e => decide (k = e.1)
  | [] => rfl
  | e :: l => by
    rw [List.map_cons, List.any_cons, List.any_cons, any_map k l]
    have : keq [fk k] (encM fk fv e).1 = decide (k = e.1) := keq_one k e.1
    rw [this]
theorem mput_map {fk : κ → D} [KeyC fk] {fv : β → List D} (k : κ) (v : β) (l : List (κ × β)) : mput (l.map (encM fk fv)) [fk k] (fv v) = (aput0 l k v).map (encM fk fv) := by
  unfold mput aput0
  rw [any_map]
  cases l.any fun e => decide (k = e.1) with
  | false => simp [encM]
  | true =>
    simp only [cond_true, List.map_map]
    refine List.map_congr_left fun e he => ?_
    simp only [Function.comp]
    have : keq [fk k] (encM fk fv e).1 = decide (k = e.1) := keq_one k e.1
    rw [this]
    cases decide (k = e.1) <;> rfl
end
instance keyStr : KeyC D.str := ⟨fun a b => rfl⟩
instance keyInt (k : IntKind) : KeyC (D.int k) := ⟨fun a b => by
  show (k == k && a == b) = _
  rw [beq_self_eq_true, Bool.true_and]
  by_cases h : a = b <;> simp [h]⟩

section
variable {Γ : Types} {base : Nat} {st : St} {κ β : Type} [DecidableEq κ] {fk : κ → D} {fv : β → List D}
/-- what is asked of a lookup: the map's id, its entries, the key, the element's zero value, its kind -/
def mapC (Γ : Types) (t : TypeId) (st : St) (x y : Operand) : Option (Nat × List (List D × List D) × D × List D × Bool) := match Γ.lookup t, st.ev x, st.ev y with
  | some ⟨_, _, _, _, .map kt et⟩, some (.v (.one (.mapp id))), some (.v (.one (.d k))) => match st.box id, Γ.lookup kt, Γ.lookup et with
    | some [.mapc kk va es], some tk, some te => match toDs te.zero with
      | some z => if kindK tk.kind = some kk ∧ kk.fits [k] = true ∧ te.agg = va then some (id, es, k, z, te.agg) else none
      | none => none
    | _, _, _ => none
  | _, _, _ => none
theorem lookup_spec {t : TypeId} {x y : Operand} {c : Bool} {id : Nat} {es : List (List D × List D)} {k : D} {z : List D} {agg : Bool} (h : mapC Γ t st x y = some (id, es, k, z, agg)) {r : T1} (hr : mkT agg (((mget es [k]).getD z).map .d) = some (.v r)) :
    aeff Γ base (.lookup t x y c) st = some ⟨bif c then .tup [r, .one (.d (.bool (mget es [k]).isSome))] else .v r, [], [], [id]⟩ := by
  unfold mapC at h
  split at h
  case h_2 => cases h
  rename_i sz bytes zero agg' kt et id' k' ht hx hy
  split at h
  case h_2 => cases h
  rename_i kk va l tk te hb htk hte
  split at h
  case h_2 => cases h
  rename_i z' hz
  split at h
  case isFalse => cases h
  rename_i hc
  injection h with h; injection h with h1 h; injection h with h2 h; injection h with h3 h; injection h with h4 h5
  subst h1 h2 h3 h4 h5
  obtain ⟨c1, c2, c3⟩ := hc
  subst c3
  simp only [aeff, ht, hx, hy, hb, htk, hte, hz, c1, c2, and_self, if_true, hr]
def valT (agg : Bool) (ds : List D) : T1 := bif agg then .agg (ds.map .d) else .one (.d (ds.headD (.bool false)))
theorem x_get (id : Nat) (agg : Bool) {t : TypeId} {x y : Operand} {l : List (κ × β)} {k : κ} {z v : β} (fk : κ → D) [KeyC fk] (fv : β → List D) (h : some ((aget l k).getD z) = some v)
    (hc : mapC Γ t st x y = some (id, l.map (encM fk fv), fk k, fv z, agg) := by kernel_rfl) (hs : ∀ v, mkT agg ((fv v).map .d) = some (.v (valT agg (fv v))) := by intro _; kernel_rfl) :
    aeff Γ base (.lookup t x y false) st = some ⟨.v (valT agg (fv v)), [], [], [id]⟩ := by
  have e : (mget (l.map (encM fk fv)) [fk k]).getD (fv z) = fv v := by
    rw [mget_map]
    injection h with h
    rw [← h]
    cases aget l k <;> rfl
  exact lookup_spec (c := false) hc (by rw [e]; exact hs v)
theorem x_getO (id : Nat) (agg : Bool) {t : TypeId} {x y : Operand} {l : List (κ × β)} {k : κ} {z v : β} {b : Bool} (fk : κ → D) [KeyC fk] (fv : β → List D) (h : some ((aget l k).getD z) = some v) (hb : some (aget l k).isSome = some b)
    (hc : mapC Γ t st x y = some (id, l.map (encM fk fv), fk k, fv z, agg) := by kernel_rfl) (hs : ∀ v, mkT agg ((fv v).map .d) = some (.v (valT agg (fv v))) := by intro _; kernel_rfl) :
    aeff Γ base (.lookup t x y true) st = some ⟨.tup [valT agg (fv v), .one (.d (.bool b))], [], [], [id]⟩ := by
  have e : (mget (l.map (encM fk fv)) [fk k]).getD (fv z) = fv v := by
    rw [mget_map]
    injection h with h
    rw [← h]
    cases aget l k <;> rfl
  have e2 : (mget (l.map (encM fk fv)) [fk k]).isSome = b := by
    rw [mget_map]
    injection hb with hb
    rw [← hb]
    cases aget l k <;> rfl
  have := lookup_spec (base := base) (c := true) hc (by rw [e]; exact hs v)
  rw [e2] at this
  exact this
/-- what is asked of a write -/
def updC (Γ : Types) (t : TypeId) (st : St) (m x y : Operand) : Option (Nat × KK × Bool × List (List D × List D) × D × List D) := match Γ.lookup t, st.ev m, st.ev x, st.ev y with
  | some ⟨_, _, _, _, .map kt _⟩, some (.v (.one (.mapp id))), some (.v (.one (.d k))), some (.v v) => match st.box id, Γ.lookup kt with
    | some [.mapc kk va es], some tk => match toDs v.cells with
      | some vs => if kindK tk.kind = some kk ∧ kk.fits [k] = true ∧ v.isAgg = va then some (id, kk, va, es, k, vs) else none
      | none => none
    | _, _ => none
  | _, _, _, _ => none
theorem x_put (id : Nat) (kk : KK) (agg : Bool) {t : TypeId} {m x y : Operand} {l : List (κ × β)} {k : κ} {v : β} (fk : κ → D) [KeyC fk] (fv : β → List D)
    (hc : updC Γ t st m x y = some (id, kk, agg, l.map (encM fk fv), fk k, fv v) := by kernel_rfl) :
    aeff Γ base (.mapUpdate t m x y) st = some ⟨.undef, [], [(id, some [.mapc kk agg ((aput0 l k v).map (encM fk fv))])], [id]⟩ := by
  unfold updC at hc
  split at hc
  case h_2 => cases hc
  rename_i sz bytes zero agg' kt et id' k' tv ht hm hx hy
  split at hc
  case h_2 => cases hc
  rename_i kk' va l' tk hb htk
  split at hc
  case h_2 => cases hc
  rename_i vs hvs
  split at hc
  case isFalse => cases hc
  rename_i hcc
  injection hc with h; injection h with h1 h; injection h with h2 h; injection h with h3 h; injection h with h4 h; injection h with h5 h6
  obtain ⟨c1, c2, c3⟩ := hcc
  subst h1 h2 h4 h5 h6
  simp only [aeff, ht, hm, hx, hy, hb, htk, hvs, c1, c2, c3, h3, and_self, if_true, mput_map]
/-- what is asked of a step through a string -/
def sitC (st : St) (x : Operand) : Option (Nat × List UInt8 × Nat) := match st.ev x with
  | some (.v (.one (.box id 0))) => match st.box id with
    | some [.iters s pos] => some (id, s, pos)
    | _ => none
  | _ => none
theorem sitC_spec {x : Operand} {id : Nat} {s : List UInt8} {pos : Nat} (h : sitC st x = some (id, s, pos)) : st.ev x = some (.v (.one (.box id 0))) ∧ st.box id = some [.iters s pos] := by
  unfold sitC at h
  split at h
  case h_2 => cases h
  rename_i id' hx
  split at h
  case h_2 => cases h
  rename_i s' p' hb
  injection h with h; injection h with h1 h; injection h with h2 h3
  subst h1 h2 h3
  exact ⟨hx, hb⟩
theorem x_next (id : Nat) (s : List UInt8) (pos : Nat) {x : Operand} {d : Nat × Nat} (h : decide (pos < s.length) = true) (hd : some (dec s pos) = some d) (hc : sitC st x = some (id, s, pos) := by kernel_rfl) :
    aeff Γ base (.next x true) st = some ⟨.tup [.one (.d (.bool true)), .one (.d (.int .i64 (pos : Nat))), .one (.d (.int .i32 (d.1 : Nat)))], [], [(id, some [.iters s (pos + d.2)])], [id]⟩ := by
  obtain ⟨h1, h2⟩ := sitC_spec hc
  obtain rfl := Option.some.inj hd
  simp only [aeff, h1, h2, of_decide_eq_true h, if_true]
theorem x_nextE (id : Nat) (s : List UInt8) (pos : Nat) {x : Operand} (h : decide (pos < s.length) = false) (hc : sitC st x = some (id, s, pos) := by kernel_rfl) :
    aeff Γ base (.next x true) st = some ⟨.tup [.one (.d (.bool false))], [], [], [id]⟩ := by
  obtain ⟨h1, h2⟩ := sitC_spec hc
  simp only [aeff, h1, h2, of_decide_eq_false h, if_false]
/-- a new map has no entries -/
theorem x_map (kk : KK) (agg : Bool) {t : TypeId} (fk : κ → D) (fv : β → List D) (hc : aeff Γ base (.makeMap t none) st = some ⟨.c (.mapp base), [], [(base, some [.mapc kk agg []])], [base]⟩ := by kernel_rfl) :
    aeff Γ base (.makeMap t none) st = some ⟨.c (.mapp base), [], [(base, some [.mapc kk agg (([] : List (κ × β)).map (encM fk fv))])], [base]⟩ := hc
end
end Go.Eng
