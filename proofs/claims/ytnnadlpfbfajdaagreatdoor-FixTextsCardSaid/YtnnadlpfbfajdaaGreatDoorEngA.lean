/-
An abstract machine over the model's code: memory by value. Definitions: data, cells, states, what they stand for in the model's memory.
-/
import Derived.Test.YtnnadlpfbfajdaaGreatDoorEngA0
import Derived.Calls
import Derived.Orders
namespace Go.Eng
open Go

/-- Data: what can be told without a place in memory. A slice is the list of its elements, each the list of its cells. -/
inductive D where
  | int (k : IntKind) (n : Int)
  | bool (b : Bool)
  | str (s : List UInt8)
  | lst (xs : List (List D))

/-- The kind of a map's keys. -/
inductive KK where
  | int (k : IntKind)
  | str
  | agg
  deriving DecidableEq
def KK.isAgg : KK → Bool
  | .agg => true
  | _ => false
def KK.fits : KK → List D → Bool
  | .int k, [.int k' _] => k == k'
  | .str, [.str _] => true
  | .agg, _ => true
  | _, _ => false

/-- What one cell of memory, or one temporary, holds. -/
inductive Cell where
  | d (x : D)
  | nil
  | own (id : Nat) (p : Option Nat)
  | box (id off : Nat)
  | ep (id i off : Nat)
  | view (id lo n : Nat)
  | cp (cs : List D)
  | fn (f : FuncId) (caps : List Nat)
  | nilp
  | nili
  | undef
  | nilm
  | nilf
  | mapp (id : Nat)
  | mapc (ka : KK) (va : Bool) (es : List (List D × List D))
  | mapg (ka : KK) (va : Bool) (me : List (Nat × List D × List D)) (clock : Nat)
  | iterc (id : Nat) (me : List (Nat × List D × List D)) (clock : Nat) (rest : List (List D × List D)) (cur : Option (Nat × List D × List D))
  | iters (s : List UInt8) (pos : Nat)
  | selfp (id : Nat) (t : TypeId)

inductive T1 where
  | one (c : Cell)
  | agg (cs : List Cell)

inductive TV where
  | v (x : T1)
  | tup (xs : List T1)

abbrev TV.c (x : Cell) : TV := .v (.one x)
abbrev TV.int (k : IntKind) (n : Int) : TV := .v (.one (.d (.int k n)))
abbrev TV.i (n : Int) : TV := .v (.one (.d (.int .i64 n)))
abbrev TV.b (x : Bool) : TV := .v (.one (.d (.bool x)))
abbrev TV.undef : TV := .v (.one .undef)

/-- A block of elements that this activation alone writes. -/
structure OwnB where
  et : TypeId
  sz : Nat
  xs : List (List D)

structure St where
  t : Nat → TV
  own : Nat → Option OwnB
  box : Nat → Option (List Cell)
  next : Nat

def upd {α : Type} (m : Nat → α) (k : Nat) (v : α) : Nat → α := fun x => if x = k then v else m x
theorem upd_same {α : Type} (m : Nat → α) (k : Nat) (v : α) : upd m k v k = v := by simp [upd]
theorem upd_ne {α : Type} (m : Nat → α) {k j : Nat} (v : α) (h : j ≠ k) : upd m k v j = m j := by simp [upd, h]
theorem upd_comm {α : Type} (m : Nat → α) {k j : Nat} (v u : α) (h : k ≠ j) : upd (upd m k v) j u = upd (upd m j u) k v := by
  funext x; unfold upd; by_cases h1 : x = j
  · by_cases h2 : x = k
    · omega
    · simp [h1, show ¬ j = k by omega]
  · simp [h1]

/-- The ids that a cell names. -/
def Cell.refs : Cell → List Nat
  | .own id _ => [id]
  | .box id _ => [id]
  | .ep id _ _ => [id]
  | .view id _ _ => [id]
  | .fn _ caps => caps
  | .mapp id => [id]
  | .iterc id _ _ _ _ => [id]
  | .selfp id _ => [id]
  | _ => []
/-- What an object that is no row of cells holds. -/
def Cell.content : Cell → Bool
  | .mapc .. => true
  | .mapg .. => true
  | .iterc .. => true
  | .iters .. => true
  | _ => false
/-- May it lie in a row of this type? -/
def Cell.atT (et : TypeId) : Cell → Prop
  | .selfp _ t => et = t
  | c => c.content = false
theorem Cell.atT.content {et : TypeId} {c : Cell} (h : c.atT et) : c.content = false := by cases c <;> first | rfl | exact h
def Cell.odd : Cell → Bool
  | .undef => true
  | c => c.content
def plainCs : List Cell → Bool
  | [c] => !c.odd
  | _ => true
def T1.refs : T1 → List Nat
  | .one c => c.refs
  | .agg cs => cs.flatMap Cell.refs
def TV.refs : TV → List Nat
  | .v x => x.refs
  | .tup xs => xs.flatMap T1.refs

/-! ### What data stand for -/
inductive DRep (w : World) (ok : Nat → Prop) : D → Value → Prop where
  | int (k : IntKind) (n : Int) : DRep w ok (.int k n) (.int k n)
  | bool (b : Bool) : DRep w ok (.bool b) (.bool b)
  | str (s : List UInt8) : DRep w ok (.str s) (.string ⟨s.toArray⟩)
  | lnil (a : Option Addr) (c : Nat) : DRep w ok (.lst []) (.slice a 0 c)
  | lst (xs : List (List D)) (a : Addr) (c sz : Nat) (val : Nat → Nat → Value) (hne : xs ≠ []) (hc : xs.length ≤ c) (hok : ok a.block)
      (hs : ∀ cs ∈ xs, cs.length = sz)
      (hv : ∀ (i j : Nat) (cs : List D) (x : D), xs[i]? = some cs → cs[j]? = some x → w.cell? (a.add (i * sz + j)) = some (val i j))
      (hr : ∀ (i j : Nat) (cs : List D) (x : D), xs[i]? = some cs → cs[j]? = some x → DRep w ok x (val i j)) :
      DRep w ok (.lst xs) (.slice (some a) xs.length c)

theorem add_block (a : Addr) (n : Nat) : (a.add n).block = a.block := by unfold Addr.add; split <;> rfl
theorem add_add (a : Addr) (i j : Nat) : (a.add i).add j = a.add (i + j) := by
  unfold Addr.add
  by_cases hi : i = 0 <;> by_cases hj : j = 0 <;> simp [hi, hj, Nat.add_assoc]
theorem cell_congr {w w' : World} {a : Addr} (h : w'.heap[a.block]? = w.heap[a.block]?) : w'.cell? a = w.cell? a := by
  unfold World.cell?; rw [h]

theorem DRep.mono {w w' : World} {ok ok' : Nat → Prop} {x : D} {v : Value} (h : DRep w ok x v) (hw : ∀ b, ok b → w'.heap[b]? = w.heap[b]?)
    (hok : ∀ b, ok b → ok' b) : DRep w' ok' x v := by
  induction h with
  | int k n => exact .int k n
  | bool b => exact .bool b
  | str s => exact .str s
  | lnil a c => exact .lnil a c
  | lst xs a c sz val hne hc hk hs hv _ ih =>
    exact .lst xs a c sz val hne hc (hok _ hk) hs
      (fun i j cs x h1 h2 => (cell_congr (by rw [add_block]; exact hw _ hk)).trans (hv i j cs x h1 h2)) ih

/-! ### Maps -/
def mapVal (es : Array MapEntry) (clock : Nat) : Value := .tuple #[.tuple (es.map fun e => .tuple #[e.key, e.val, .int .i64 e.born]), .int .i64 clock]
def iterVal (m since : Nat) (seen : Array Nat) (stepped : Nat) : Value := .tuple #[.int .i64 m, .int .i64 since, .tuple (seen.map fun (n : Nat) => .int .i64 n), .int .i64 stepped]
def sitVal (s : ByteArray) (pos : Nat) : Value := .tuple #[.string s, .int .i64 pos, .int .i64 0]
theorem sitVal_inj {s s' : ByteArray} {p p' : Nat} (h : sitVal s p = sitVal s' p') : s = s' ∧ p = p' := by
  unfold sitVal at h
  injection h with h
  have h1 := congrArg (fun a : Array Value => a[0]?) h
  have h2 := congrArg (fun a : Array Value => a[1]?) h
  simp at h1 h2
  exact ⟨h1, by omega⟩
theorem mapVal_inj {es es' : Array MapEntry} {c c' : Nat} (h : mapVal es c = mapVal es' c') : es = es' ∧ c = c' := by
  unfold mapVal at h
  injection h with h
  have h1 := congrArg (fun a : Array Value => a[0]?) h
  have h2 := congrArg (fun a : Array Value => a[1]?) h
  simp at h1 h2
  refine ⟨?_, by omega⟩
  have h3 := congrArg Array.toList h1
  simp at h3
  have key : ∀ (l l' : List MapEntry), l.map (fun e : MapEntry => Value.tuple #[e.key, e.val, .int .i64 e.born]) = l'.map (fun e : MapEntry => Value.tuple #[e.key, e.val, .int .i64 e.born]) → l = l' := by
    intro l
    induction l with
    | nil => intro l' h; cases l' with
      | nil => rfl
      | cons x l' => simp at h
    | cons x l ih => intro l' h; cases l' with
      | nil => simp at h
      | cons y l' =>
        simp only [List.map_cons, List.cons.injEq] at h
        obtain ⟨h, ht⟩ := h
        injection h with h
        have g1 := congrArg (fun a : Array Value => a[0]?) h
        have g2 := congrArg (fun a : Array Value => a[1]?) h
        have g3 := congrArg (fun a : Array Value => a[2]?) h
        simp at g1 g2 g3
        have e0 : x = y := by
          obtain ⟨k1, v1, b1⟩ := x
          obtain ⟨k2, v2, b2⟩ := y
          simp only at g1 g2 g3
          have g4 : b1 = b2 := by omega
          rw [g1, g2, g4]
        rw [ih l' ht, e0]
  have := key es.toList es'.toList h3
  exact Array.ext' this
theorem iterVal_inj {m m' s s' p p' : Nat} {a a' : Array Nat} (h : iterVal m s a p = iterVal m' s' a' p') : m = m' ∧ s = s' ∧ a = a' ∧ p = p' := by
  unfold iterVal at h
  injection h with h
  have h1 := congrArg (fun a : Array Value => a[0]?) h
  have h2 := congrArg (fun a : Array Value => a[1]?) h
  have h3 := congrArg (fun a : Array Value => a[2]?) h
  have h4 := congrArg (fun a : Array Value => a[3]?) h
  simp at h1 h2 h3 h4
  refine ⟨by omega, by omega, ?_, by omega⟩
  have h5 := congrArg Array.toList h3
  simp at h5
  have key : ∀ (l l' : List Nat), l.map (fun n : Nat => Value.int .i64 (n : Int)) = l'.map (fun n : Nat => Value.int .i64 (n : Int)) → l = l' := by
    intro l
    induction l with
    | nil => intro l' h; cases l' with
      | nil => rfl
      | cons x l' => simp at h
    | cons x l ih => intro l' h; cases l' with
      | nil => simp at h
      | cons y l' =>
        simp only [List.map_cons, List.cons.injEq] at h
        obtain ⟨h, ht⟩ := h
        injection h with _ h
        rw [ih l' ht]
        have : x = y := by omega
        rw [this]
  exact Array.ext' (key _ _ h5)
theorem mapVal_ne {es : Array MapEntry} {c m s p : Nat} {a : Array Nat} (h : mapVal es c = iterVal m s a p) : False := by
  unfold mapVal iterVal at h
  injection h with h
  have h1 := congrArg Array.size h
  simp at h1
theorem sit_map {s : ByteArray} {p c : Nat} {es : Array MapEntry} (h : sitVal s p = mapVal es c) : False := by
  unfold mapVal sitVal at h
  injection h with h
  have h1 := congrArg Array.size h
  simp at h1
theorem sit_iter {s : ByteArray} {p m c q : Nat} {a : Array Nat} (h : sitVal s p = iterVal m c a q) : False := by
  unfold iterVal sitVal at h
  injection h with h
  have h1 := congrArg Array.size h
  simp at h1

/-- A value of a map: one cell, or the cells of a struct. -/
def VRep (w : World) (ok : Nat → Prop) (agg : Bool) (ds : List D) (v : Value) : Prop :=
  (agg = true ∧ ∃ vs : Array Value, v = .agg vs ∧ vs.size = ds.length ∧ ∀ (j : Nat) (x : D), ds[j]? = some x → ∃ u, vs[j]? = some u ∧ DRep w ok x u) ∨
  (agg = false ∧ ∃ x, ds = [x] ∧ DRep w ok x v)
theorem VRep.mono {w w' : World} {ok ok' : Nat → Prop} {agg : Bool} {ds : List D} {v : Value} (h : VRep w ok agg ds v) (hw : ∀ b, ok b → w'.heap[b]? = w.heap[b]?)
    (hok : ∀ b, ok b → ok' b) : VRep w' ok' agg ds v := by
  rcases h with ⟨h0, vs, h1, h2, h3⟩ | ⟨h0, x, h1, h2⟩
  · refine .inl ⟨h0, vs, h1, h2, fun j x hj => ?_⟩
    obtain ⟨u, hu, hd⟩ := h3 j x hj
    exact ⟨u, hu, hd.mono hw hok⟩
  · exact .inr ⟨h0, x, h1, h2.mono hw hok⟩
/-- A map's entries, in the order in which they came, with their stamps. -/
structure MapG (w : World) (ok : Nat → Prop) (ka : KK) (va : Bool) (me : List (Nat × List D × List D)) (clock : Nat) (es : Array MapEntry) : Prop where
  len : es.size = me.length
  at_ : ∀ (j : Nat) (e : Nat × List D × List D), me[j]? = some e → ∃ x, es[j]? = some x ∧ x.born = e.1 ∧ VRep w ok ka.isAgg e.2.1 x.key ∧ VRep w ok va e.2.2 x.val
  rise : (me.map (·.1)).Pairwise (· < ·)
  lt : ∀ e ∈ me, e.1 < clock
  keys : (me.map (·.2.1)).Nodup
  fit : ∀ e ∈ me, ka.fits e.2.1 = true
theorem MapG.mono {w w' : World} {ok ok' : Nat → Prop} {ka : KK} {va : Bool} {me : List (Nat × List D × List D)} {clock : Nat} {es : Array MapEntry} (h : MapG w ok ka va me clock es)
    (hw : ∀ b, ok b → w'.heap[b]? = w.heap[b]?) (hok : ∀ b, ok b → ok' b) : MapG w' ok' ka va me clock es :=
  ⟨h.len, fun j e hj => by
    obtain ⟨x, h1, h2, h3, h4⟩ := h.at_ j e hj
    exact ⟨x, h1, h2, h3.mono hw hok, h4.mono hw hok⟩, h.rise, h.lt, h.keys, h.fit⟩

/-! ### What cells stand for. C: the block of an id. -/
def CRep (w : World) (ok : Nat → Prop) (C : Nat → Option Nat) (own : Nat → Option OwnB) : Cell → Value → Prop
  | .d x, v => DRep w ok x v
  | .nil, v => v = .slice none 0 0
  | .own id p, v => (C id = none ∧ v = .slice none 0 0 ∧ ∀ e, own id = some e → p.getD e.xs.length = 0) ∨ ∃ b n c, C id = some b ∧ v = .slice (some ⟨b, 0, none⟩) n c ∧ n ≤ c ∧ c ≤ 9223372036854775807 ∧
      ∀ e, own id = some e → n = p.getD e.xs.length ∧ n ≤ e.xs.length ∧ ∃ arr, w.heap[b]? = some (.cells arr e.et (0, 0)) ∧ arr.size = c * e.sz
  | .box id off, v => ∃ b, C id = some b ∧ v = .pointer (some ⟨b, off, none⟩)
  | .ep id i off, v => ∀ e, own id = some e → ∃ b, C id = some b ∧ v = .pointer (some ⟨b, i * e.sz + off, none⟩)
  | .view id lo n, v => ∀ e, own id = some e → ∃ p c, v = .slice p n c ∧ n ≤ c ∧ lo + n ≤ e.xs.length ∧ (0 < n → ∃ b, C id = some b ∧ p = some ⟨b, lo * e.sz, none⟩)
  | .cp cs, v => ∃ a : Addr, v = .pointer (some a) ∧ ok a.block ∧ ∀ (j : Nat) (x : D), cs[j]? = some x → ∃ u, w.cell? (a.add j) = some u ∧ DRep w ok x u
  | .fn f caps, v => ∃ vs : Array Value, v = .func (.func f) #[] vs ∧ vs.size = caps.length ∧
      ∀ (j : Nat) (id : Nat), caps[j]? = some id → ∃ b, C id = some b ∧ vs[j]? = some (.pointer (some ⟨b, 0, none⟩))
  | .nilp, v => v = .pointer none
  | .nili, v => v = .nilIface
  | .undef, _ => True
  | .nilm, v => v = .map none
  | .nilf, v => v = .nilFunc
  | .mapp id, v => ∃ b, C id = some b ∧ v = .map (some b)
  | .mapg ka va me clock, v => ∃ es, v = mapVal es clock ∧ MapG w ok ka va me clock es
  | .mapc ka va l, v => ∃ me clock es, v = mapVal es clock ∧ MapG w ok ka va me clock es ∧ l.Perm (me.map (·.2))
  | .iters s pos, v => v = sitVal ⟨s.toArray⟩ pos
  | .selfp id _, v => v = .pointer none ∨ ∃ b, C id = some b ∧ v = .pointer (some ⟨b, 0, none⟩)
  | .iterc id me clock rest cur, v => ∃ b seen, C id = some b ∧ v = iterVal b clock seen clock ∧ rest.Perm ((me.filter fun e => !seen.contains e.1).map (·.2)) ∧ ∀ e, cur = some e → e ∈ me ∧ seen.back? = some e.1

def T1Rep (R : Cell → Value → Prop) : T1 → Value → Prop
  | .one c, v => R c v
  | .agg cs, v => ∃ vs : Array Value, v = .agg vs ∧ vs.size = cs.length ∧ ∀ (j : Nat) (c : Cell), cs[j]? = some c → ∃ u, vs[j]? = some u ∧ R c u
def TRep (R : Cell → Value → Prop) : TV → Value → Prop
  | .v x, v => T1Rep R x v
  | .tup xs, v => ∃ vs : Array Value, v = .tuple vs ∧ vs.size = xs.length ∧ ∀ (j : Nat) (x : T1), xs[j]? = some x → ∃ u, vs[j]? = some u ∧ T1Rep R x u

theorem T1Rep.imp {R R' : Cell → Value → Prop} {x : T1} {v : Value} (h : T1Rep R x v) (hr : ∀ c u, (∀ r ∈ c.refs, r ∈ x.refs) → R c u → R' c u) : T1Rep R' x v := by
  cases x with
  | one c => exact hr _ _ (fun _ h => h) h
  | agg cs =>
    obtain ⟨vs, e, hs, h⟩ := h
    refine ⟨vs, e, hs, fun j c hj => ?_⟩
    obtain ⟨u, h1, h2⟩ := h j c hj
    exact ⟨u, h1, hr _ _ (fun r hr' => List.mem_flatMap.2 ⟨c, List.mem_of_getElem? hj, hr'⟩) h2⟩
theorem TRep.imp {R R' : Cell → Value → Prop} {x : TV} {v : Value} (h : TRep R x v) (hr : ∀ c u, (∀ r ∈ c.refs, r ∈ x.refs) → R c u → R' c u) : TRep R' x v := by
  cases x with
  | v x => exact T1Rep.imp h hr
  | tup xs =>
    obtain ⟨vs, e, hs, h⟩ := h
    refine ⟨vs, e, hs, fun j c hj => ?_⟩
    obtain ⟨u, h1, h2⟩ := h j c hj
    exact ⟨u, h1, T1Rep.imp h2 fun c' u' hs' => hr _ _ fun r hr' => List.mem_flatMap.2 ⟨c, List.mem_of_getElem? hj, hs' r hr'⟩⟩

/-- When a cell stands for the same behind a change: data by 'ok', the rest by the ids that it names. -/
theorem CRep.mono {w w' : World} {ok ok' : Nat → Prop} {C C' : Nat → Option Nat} {own own' : Nat → Option OwnB} {c : Cell} {v : Value} (h : CRep w ok C own c v)
    (hw : ∀ b, ok b → w'.heap[b]? = w.heap[b]?) (hok : ∀ b, ok b → ok' b) (hC : ∀ id ∈ c.refs, C' id = C id)
    (ho : ∀ id ∈ c.refs, ∀ e', own' id = some e' → ∃ e, own id = some e ∧ e.et = e'.et ∧ e.sz = e'.sz ∧ e.xs.length = e'.xs.length ∧
      ∀ b arr, C id = some b → w.heap[b]? = some (.cells arr e.et (0, 0)) → ∃ arr', w'.heap[b]? = some (.cells arr' e.et (0, 0)) ∧ arr'.size = arr.size) :
    CRep w' ok' C' own' c v := by
  cases c with
  | d x => exact DRep.mono h hw hok
  | nil => exact h
  | own id p =>
    rcases h with ⟨h1, h2, h3⟩ | ⟨b, n, k, hb, hv, hn, hk, h⟩
    · refine .inl ⟨(hC id (by simp [Cell.refs])).trans h1, h2, fun e' he' => ?_⟩
      obtain ⟨e, he, _, _, h4, _⟩ := ho id (by simp [Cell.refs]) e' he'
      rw [← h4]; exact h3 e he
    · refine .inr ⟨b, n, k, (hC id (by simp [Cell.refs])).trans hb, hv, hn, hk, fun e' he' => ?_⟩
      obtain ⟨e, he, h1, h2, h3, h4⟩ := ho id (by simp [Cell.refs]) e' he'
      obtain ⟨h5, h5', arr, h6, h7⟩ := h e he
      obtain ⟨arr', hh', hsz⟩ := h4 b arr hb h6
      exact ⟨by rw [← h3]; exact h5, by rw [← h3]; exact h5', arr', by rw [← h1]; exact hh', by rw [hsz, h7, h2]⟩
  | box id off =>
    obtain ⟨b, hb, hv⟩ := h
    exact ⟨b, by rw [hC id (by simp [Cell.refs])]; exact hb, hv⟩
  | ep id i off =>
    intro e' he'
    obtain ⟨e, he, h1, h2, h3, h4⟩ := ho id (by simp [Cell.refs]) e' he'
    obtain ⟨b, hb, hv⟩ := h e he
    exact ⟨b, by rw [hC id (by simp [Cell.refs])]; exact hb, by rw [← h2]; exact hv⟩
  | view id lo n =>
    intro e' he'
    obtain ⟨e, he, h1, h2, h3, h4⟩ := ho id (by simp [Cell.refs]) e' he'
    obtain ⟨p, k, hv, hn, hl, hb⟩ := h e he
    refine ⟨p, k, hv, hn, by rw [← h3]; exact hl, fun h0 => ?_⟩
    obtain ⟨b, g1, g2⟩ := hb h0
    exact ⟨b, by rw [hC id (by simp [Cell.refs])]; exact g1, by rw [← h2]; exact g2⟩
  | cp cs =>
    obtain ⟨a, hv, ha, h⟩ := h
    refine ⟨a, hv, hok _ ha, fun j x hj => ?_⟩
    obtain ⟨u, hu, hd⟩ := h j x hj
    exact ⟨u, (cell_congr (by rw [add_block]; exact hw _ ha)).trans hu, hd.mono hw hok⟩
  | fn f caps =>
    obtain ⟨vs, hv, hs, h⟩ := h
    refine ⟨vs, hv, hs, fun j id hj => ?_⟩
    obtain ⟨b, hb, hu⟩ := h j id hj
    exact ⟨b, by rw [hC id (List.mem_of_getElem? hj)]; exact hb, hu⟩
  | nilp => exact h
  | nili => exact h
  | undef => trivial
  | nilm => exact h
  | nilf => exact h
  | mapp id =>
    obtain ⟨b, hb, hv⟩ := h
    exact ⟨b, by rw [hC id (by simp [Cell.refs])]; exact hb, hv⟩
  | mapg ka va me clock =>
    obtain ⟨es, hv, hm⟩ := h
    exact ⟨es, hv, hm.mono hw hok⟩
  | mapc ka va l =>
    obtain ⟨me, clock, es, hv, hm, hp⟩ := h
    exact ⟨me, clock, es, hv, hm.mono hw hok, hp⟩
  | iters s pos => exact h
  | selfp id t =>
    rcases h with h | ⟨b, hb, hv⟩
    · exact .inl h
    · exact .inr ⟨b, by rw [hC id (by simp [Cell.refs])]; exact hb, hv⟩
  | iterc id me clock rest cur =>
    obtain ⟨b, seen, hb, hv, hp⟩ := h
    exact ⟨b, seen, by rw [hC id (by simp [Cell.refs])]; exact hb, hv, hp⟩

/-! ### Blocks of one's own, variables in memory -/
def OwnOk (w : World) (ok : Nat → Prop) (C : Nat → Option Nat) (id : Nat) (e : OwnB) : Prop :=
  0 < e.sz ∧ ((C id = none ∧ e.xs = []) ∨ ∃ b arr, C id = some b ∧ w.heap[b]? = some (.cells arr e.et (0, 0)) ∧ e.xs.length * e.sz ≤ arr.size ∧
    (∀ cs ∈ e.xs, cs.length = e.sz) ∧
    ∀ (i j : Nat) (cs : List D) (x : D), e.xs[i]? = some cs → cs[j]? = some x → ∃ v, arr[i * e.sz + j]? = some v ∧ DRep w ok x v)
/-- What an object holds, as a row of values. -/
def OV (o : Obj) (arr : Array Value) : Prop := (∃ et, o = .cells arr et (0, 0)) ∨ (∃ es clock, o = .map es clock ∧ arr = #[mapVal es clock]) ∨
  (∃ m since seen stepped, o = .mapIter (some m) since seen stepped ∧ arr = #[iterVal m since seen stepped]) ∨ ∃ s pos, o = .stringIter s pos ∧ arr = #[sitVal s pos]
/-- A row of cells, or an object with one content. -/
def Kd (o : Obj) (cs : List Cell) : Prop := (∃ arr et, o = .cells arr et (0, 0) ∧ ∀ c ∈ cs, c.atT et) ∨ ((∀ arr et k, o ≠ .cells arr et k) ∧ ∃ c, cs = [c] ∧ c.odd = true)
def BoxOk (w : World) (R : Cell → Value → Prop) (C : Nat → Option Nat) (id : Nat) (cs : List Cell) : Prop :=
  ∃ b o arr, C id = some b ∧ w.heap[b]? = some o ∧ OV o arr ∧ Kd o cs ∧ arr.size = cs.length ∧
    ∀ (j : Nat) (c : Cell), cs[j]? = some c → ∃ v, arr[j]? = some v ∧ R c v
theorem BoxOk.cells {w : World} {R : Cell → Value → Prop} {C : Nat → Option Nat} {id : Nat} {cs : List Cell} (h : BoxOk w R C id cs) (hp : plainCs cs = true) :
    ∃ b arr et, C id = some b ∧ w.heap[b]? = some (.cells arr et (0, 0)) ∧ arr.size = cs.length ∧ (∀ c ∈ cs, c.atT et) ∧
      ∀ (j : Nat) (c : Cell), cs[j]? = some c → ∃ v, arr[j]? = some v ∧ R c v := by
  obtain ⟨b, o, arr, h1, h2, h3, h4, h5, h6⟩ := h
  rcases h4 with ⟨a', et, rfl, h4⟩ | ⟨_, c, rfl, hc⟩
  · rcases h3 with ⟨et', h3⟩ | ⟨_, _, h3, _⟩ | ⟨_, _, _, _, h3, _⟩ | ⟨_, _, h3, _⟩
    · cases h3; exact ⟨b, _, _, h1, h2, h5, h4, h6⟩
    · cases h3
    · cases h3
    · cases h3
  · simp [plainCs, hc] at hp

def Live (st : St) (id : Nat) : Prop := st.own id ≠ none ∨ st.box id ≠ none

/-- How a call began: its world, the blocks that it may write, the blocks of the variables that it was handed; the blocks that no data of it lie in. -/
structure Base where
  w0 : World
  Wr : Nat → Prop
  C0 : Nat → Option Nat
  anc : List Nat
  bad : Nat → Prop

/-- The blocks that data may lie in: none that this activation writes. -/
def okOf (B : Base) (st : St) (C : Nat → Option Nat) (w : World) (b : Nat) : Prop := b < w.heap.size ∧ ¬ B.bad b ∧ ∀ id, Live st id → C id ≠ some b

/-- What the call may have changed of the world in which it began. -/
structure Fr (w0 : World) (Wr : Nat → Prop) (w : World) : Prop where
  os : w.os = w0.os
  tape : w.tape = w0.tape
  output : w.output = w0.output
  size : w0.heap.size ≤ w.heap.size
  block : ∀ b, b < w0.heap.size → ¬ Wr b → w.heap[b]? = w0.heap[b]?
  sz : ∀ (b : Nat) (arr : Array Value) (et : TypeId) (k : Nat × Nat), w0.heap[b]? = some (.cells arr et k) → ∃ arr' k', w.heap[b]? = some (.cells arr' et k') ∧ arr'.size = arr.size

/-- A table lies in a world. -/
def TabAt (w : World) (g : Nat) (cs : List (IntKind × Int)) : Prop := ∃ et fr, w.heap[g]? = some (.cells (cs.map fun p => Value.int p.1 p.2).toArray et fr)
theorem TabAt.lt {w : World} {g : Nat} {cs : List (IntKind × Int)} (h : TabAt w g cs) : g < w.heap.size := by
  obtain ⟨et, fr, h⟩ := h
  exact (Array.getElem?_eq_some_iff.1 h).1
theorem TabAt.cell {w : World} {g : Nat} {cs : List (IntKind × Int)} (h : TabAt w g cs) {j : Nat} {k : IntKind} {n : Int} (hj : cs[j]? = some (k, n)) : w.cell? ⟨g, j, none⟩ = some (.int k n) := by
  obtain ⟨et, fr, h⟩ := h
  unfold World.cell?
  simp [h, hj]
/-- The blocks that no data lie in were there; so were the tables, and nobody writes them. -/
structure BadLt (B : Base) : Prop where
  lt : ∀ b, B.bad b → b < B.w0.heap.size
  tab : ∀ g cs, tab g = some cs → ¬ B.bad g ∧ ¬ B.Wr g ∧ TabAt B.w0 g cs

structure Mm (B : Base) (C : Nat → Option Nat) (st : St) (w : World) : Prop where
  own : ∀ id e, st.own id = some e → OwnOk w (okOf B st C w) C id e
  box : ∀ id cs, st.box id = some cs → BoxOk w (CRep w (okOf B st C w) C st.own) C id cs
  excl : ∀ id, st.own id = none ∨ st.box id = none
  inj : ∀ id id' b, Live st id → Live st id' → C id = some b → C id' = some b → id = id'
  wr : ∀ id b, Live st id → C id = some b → B.Wr b ∨ B.w0.heap.size ≤ b
  anc : ∀ id ∈ B.anc, C id = B.C0 id
  fr : Fr B.w0 B.Wr w
  nb : ∀ id b, Live st id → C id = some b → ¬ B.bad b
  badlt : BadLt B

/-- The ids in N are not in use. -/
structure Res (N : Nat → Prop) (st : St) : Prop where
  own : ∀ id, N id → st.own id = none
  box : ∀ id, N id → st.box id = none
  t : ∀ id, N id → ∀ s, id ∉ (st.t s).refs
  cell : ∀ id, N id → ∀ j cs c, st.box j = some cs → c ∈ cs → id ∉ c.refs

structure Inv (B : Base) (N : Nat → Prop) (nt : Nat) (C : Nat → Option Nat) (st : St) (a : Act) (w : World) : Prop extends Mm B C st w where
  res : Res N st
  ancN : ∀ id ∈ B.anc, ¬ N id
  defers : a.defers = []
  size : a.tmps.size = nt
  tmp : ∀ s, TRep (CRep w (okOf B st C w) C st.own) (st.t s) (a.tmps.getD s undef)
end Go.Eng
