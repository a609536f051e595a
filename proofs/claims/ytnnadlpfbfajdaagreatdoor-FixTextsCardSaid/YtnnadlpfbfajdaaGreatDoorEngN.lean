/-
A state seen through fewer and other names: what a callee is handed, what a loop begins with.
-/
import Derived.Test.YtnnadlpfbfajdaaGreatDoorEngM
namespace Go.Eng
open Go
set_option linter.unusedVariables false
set_option linter.unusedSimpArgs false

structure Mem where
  own : List (Nat × OwnB)
  box : List (Nat × List Cell)

def Mem.st (m : Mem) (t : Nat → TV) (nx : Nat) : St := ⟨t, fun id => m.own.lookup id, fun id => m.box.lookup id, nx⟩
def tl (l : List (Nat × TV)) : Nat → TV := fun s => (l.lookup s).getD .undef
def Mem.live (m : Mem) (k : Nat) : Prop := m.own.lookup k ≠ none ∨ m.box.lookup k ≠ none

def Cell.ren (r : Nat → Nat) : Cell → Cell
  | .own id p => .own (r id) p
  | .box id off => .box (r id) off
  | .ep id i off => .ep (r id) i off
  | .view id lo n => .view (r id) lo n
  | .fn f caps => .fn f (caps.map r)
  | .mapp id => .mapp (r id)
  | .iterc id me cl rest cur => .iterc (r id) me cl rest cur
  | .selfp id t => .selfp (r id) t
  | c => c
def T1.ren (r : Nat → Nat) : T1 → T1
  | .one c => .one (c.ren r)
  | .agg cs => .agg (cs.map (Cell.ren r))
def TV.ren (r : Nat → Nat) : TV → TV
  | .v x => .v (x.ren r)
  | .tup xs => .tup (xs.map (T1.ren r))

/-- The same map, seen from farther off. -/
def Like : Cell → Cell → Prop
  | .mapg ka va me _, .mapc ka' va' es => ka = ka' ∧ va = va' ∧ es.Perm (me.map (·.2))
  | .mapc ka va es, .mapc ka' va' es' => ka = ka' ∧ va = va' ∧ es'.Perm es
  | .iterc id me cl rest cur, .iterc id' me' cl' rest' cur' => id = id' ∧ me = me' ∧ cl = cl' ∧ rest'.Perm rest ∧ (cur' = none ∨ cur' = cur)
  | _, _ => False
theorem Like.content {T A : Cell} (h : Like T A) : T.content = true ∧ A.content = true := by
  unfold Like at h
  split at h
  · exact ⟨rfl, rfl⟩
  · exact ⟨rfl, rfl⟩
  · exact ⟨rfl, rfl⟩
  · exact h.elim
theorem Like.rep {w : World} {ok : Nat → Prop} {C : Nat → Option Nat} {own : Nat → Option OwnB} {T A : Cell} {v : Value} (h : Like T A) (hv : CRep w ok C own T v) : CRep w ok C own A v := by
  unfold Like at h
  split at h
  · obtain ⟨rfl, rfl, hp⟩ := h
    obtain ⟨es, h1, h2⟩ := hv
    exact ⟨_, _, es, h1, h2, hp⟩
  · obtain ⟨rfl, rfl, hp⟩ := h
    obtain ⟨me, cl, es, h1, h2, h3⟩ := hv
    exact ⟨me, cl, es, h1, h2, hp.trans h3⟩
  · obtain ⟨rfl, rfl, rfl, hp, hc⟩ := h
    obtain ⟨b, seen, h1, h2, h3, h4⟩ := hv
    exact ⟨b, seen, h1, h2, hp.trans h3, fun e he => by
      rcases hc with rfl | rfl
      · cases he
      · exact h4 e he⟩
  · exact h.elim

/-- How a cell of a state is seen: as it is, under other names; a slice of one's own as data; nil as data, or as a slice of one's own. -/
def CellSee (len : Nat → Prop) (st : St) (ρ : Nat → Nat) (nils : Nat → Bool) (m : Mem) (T A : Cell) : Prop :=
  A = .undef ∨ (T = A.ren ρ ∧ ∀ r ∈ A.refs, nils r = false) ∨
  (∃ id p xs us, len id ∧ T = .own id p ∧ A = .d (.lst xs) ∧ st.elems (.c T) = some (xs, us) ∧ ∀ k, m.own.lookup k ≠ none → nils k = false → ρ k ≠ id) ∨
  (T = .nil ∧ A = .d (.lst [])) ∨ (T = .nil ∧ ∃ k, A = .own k none ∧ nils k = true ∧ ∀ e, m.own.lookup k = some e → e.xs = []) ∨
  (∃ A0, T = A0.ren ρ ∧ (∀ r ∈ A0.refs, nils r = false) ∧ Like A0 A)

def L2 {α : Type} (R : α → α → Prop) : List α → List α → Prop
  | [], [] => True
  | c :: cs, c' :: cs' => R c c' ∧ L2 R cs cs'
  | _, _ => False
theorem L2.get {α : Type} {R : α → α → Prop} : ∀ {l l' : List α}, L2 R l l' → l.length = l'.length ∧ ∀ (j : Nat) (c' : α), l'[j]? = some c' → ∃ c, l[j]? = some c ∧ R c c'
  | [], [], _ => by simp
  | [], _ :: _, h => h.elim
  | _ :: _, [], h => h.elim
  | c :: cs, c' :: cs', h => by
    obtain ⟨h1, h2⟩ := h.2.get
    refine ⟨by simp [h1], fun j d hj => ?_⟩
    cases j with
    | zero => simp at hj; subst hj; exact ⟨c, rfl, h.1⟩
    | succ j => simpa using h2 j d (by simpa using hj)

def T1See (R : Cell → Cell → Prop) : T1 → T1 → Prop
  | .one c, .one c' => R c c'
  | .agg cs, .agg cs' => L2 R cs cs'
  | _, _ => False
def TVSee (R : Cell → Cell → Prop) : TV → TV → Prop
  | _, .v (.one .undef) => True
  | .v x, .v y => T1See R x y
  | .tup xs, .tup ys => L2 (T1See R) xs ys
  | _, _ => False

structure Sees (len : Nat → Prop) (st : St) (ρ : Nat → Nat) (nils : Nat → Bool) (m : Mem) : Prop where
  own : ∀ k e, m.own.lookup k = some e → (nils k = true ∧ e.xs = [] ∧ 0 < e.sz) ∨ (nils k = false ∧ st.own (ρ k) = some e)
  box : ∀ k cs, m.box.lookup k = some cs → nils k = false ∧ ∃ cs0, st.box (ρ k) = some cs0 ∧ L2 (CellSee len st ρ nils m) cs0 cs
  inj : ∀ k k', m.live k → m.live k' → nils k = false → nils k' = false → ρ k = ρ k' → k = k'
  excl : ∀ k, m.own.lookup k = none ∨ m.box.lookup k = none

section
variable {len : Nat → Prop} {B B' : Base} {C : Nat → Option Nat} {st : St} {w : World} {ρ : Nat → Nat} {nils : Nat → Bool} {m : Mem} {t : Nat → TV} {nx : Nat}

def seeC (C : Nat → Option Nat) (ρ : Nat → Nat) (nils : Nat → Bool) : Nat → Option Nat := fun k => if nils k then none else C (ρ k)

theorem Sees.live (hs : Sees len st ρ nils m) {k : Nat} (hk : m.live k) (hn : nils k = false) : Live st (ρ k) := by
  rcases hk with hk | hk
  · obtain ⟨e, he⟩ := Option.ne_none_iff_exists'.1 hk
    rcases hs.own k e he with ⟨h1, _⟩ | ⟨_, h2⟩
    · rw [hn] at h1; cases h1
    · exact .inl (by rw [h2]; simp)
  · obtain ⟨cs, he⟩ := Option.ne_none_iff_exists'.1 hk
    obtain ⟨_, cs0, h2, _⟩ := hs.box k cs he
    exact .inr (by rw [h2]; simp)

theorem Sees.ok (hs : Sees len st ρ nils m) (hbad : ∀ b, okOf B st C w b → ¬ B'.bad b) (b : Nat) (h : okOf B st C w b) : okOf B' (m.st t nx) (seeC C ρ nils) w b := by
  refine ⟨h.1, hbad b h, fun k hk => ?_⟩
  unfold seeC
  split
  · simp
  · rename_i hn
    exact h.2.2 _ (hs.live hk (by simpa using hn))

theorem ren_content (c : Cell) (r : Nat → Nat) : (c.ren r).content = c.content ∧ (c.ren r).odd = c.odd := by cases c <;> exact ⟨rfl, rfl⟩
theorem CellSee.odd {T A : Cell} (h : CellSee len st ρ nils m T A) : (T.content = false → A.content = false) ∧ (T.odd = true → A.odd = true) := by
  rcases h with rfl | ⟨rfl, hn⟩ | ⟨id, p, xs, us, _, rfl, rfl, _⟩ | ⟨rfl, rfl⟩ | ⟨rfl, k, rfl, _⟩ | ⟨A0, rfl, _, hl⟩
  · exact ⟨fun _ => rfl, fun _ => rfl⟩
  · rw [(ren_content A ρ).1, (ren_content A ρ).2]; exact ⟨id, id⟩
  · exact ⟨fun _ => rfl, fun h => by cases h⟩
  · exact ⟨fun _ => rfl, fun h => by cases h⟩
  · exact ⟨fun _ => rfl, fun h => by cases h⟩
  · obtain ⟨h1, h2⟩ := hl.content
    refine ⟨fun h => ?_, fun _ => ?_⟩
    · rw [(ren_content A0 ρ).1, h1] at h; cases h
    · cases A <;> first | rfl | cases h2
theorem ren_atT {et : TypeId} {c : Cell} {r : Nat → Nat} : (c.ren r).atT et ↔ c.atT et := by cases c <;> exact Iff.rfl
theorem CellSee.atT {T A : Cell} {et : TypeId} (h : CellSee len st ρ nils m T A) (hT : T.atT et) : A.atT et := by
  rcases h with rfl | ⟨rfl, hn⟩ | ⟨id, p, xs, us, _, rfl, rfl, _⟩ | ⟨rfl, rfl⟩ | ⟨rfl, k, rfl, _⟩ | ⟨A0, rfl, _, hl⟩
  · rfl
  · exact ren_atT.1 hT
  · rfl
  · rfl
  · rfl
  · have h1 := (ren_atT.1 hT).content
    rw [hl.content.1] at h1; cases h1
theorem Kd.see {o : Obj} {cs0 cs : List Cell} (h : Kd o cs0) (hs : L2 (CellSee len st ρ nils m) cs0 cs) : Kd o cs := by
  obtain ⟨hl, hg⟩ := hs.get
  rcases h with ⟨arr, et, h1, h2⟩ | ⟨h1, c, rfl, h2⟩
  · refine .inl ⟨arr, et, h1, fun c hc => ?_⟩
    obtain ⟨j, hj⟩ := List.getElem?_of_mem hc
    obtain ⟨c0, g1, g2⟩ := hg j c hj
    exact g2.atT (h2 c0 (List.mem_of_getElem? g1))
  · match cs, hl, hg with
    | [A], _, hg =>
      obtain ⟨c0, g1, g2⟩ := hg 0 A rfl
      simp at g1; subst g1
      exact .inr ⟨h1, A, rfl, g2.odd.2 h2⟩

theorem Sees.cell (h : Mm B C st w) (hs : Sees len st ρ nils m) (hbad : ∀ b, okOf B st C w b → ¬ B'.bad b) (hlb : ∀ id b, len id → Live st id → C id = some b → ¬ B'.bad b) {T A : Cell} {v : Value} (hc : CellSee len st ρ nils m T A) (hv : CRep w (okOf B st C w) C st.own T v) :
    CRep w (okOf B' (m.st t nx) (seeC C ρ nils) w) (seeC C ρ nils) (m.st t nx).own A v := by
  have hCn : ∀ k, nils k = false → seeC C ρ nils k = C (ρ k) := fun k hk => by simp [seeC, hk]
  rcases hc with rfl | ⟨rfl, hn⟩ | ⟨id, p, xs, us, hlen, rfl, rfl, hel, hlend⟩ | ⟨rfl, rfl⟩ | ⟨rfl, k, rfl, hk, hk0⟩ | ⟨A0, rfl, hn, hlk⟩
  · trivial
  · cases A with
    | d x => exact DRep.mono hv (fun _ _ => rfl) (fun b hb => hs.ok hbad b hb)
    | nil => exact hv
    | own k p =>
      have hk := hn k (by simp [Cell.refs])
      have ho : ∀ e, (m.st t nx).own k = some e → st.own (ρ k) = some e := fun e he => by
        rcases hs.own k e he with ⟨h1, _⟩ | ⟨_, h2⟩
        · rw [hk] at h1; cases h1
        · exact h2
      rcases hv with ⟨g1, g2, g3⟩ | ⟨b, n, c, g1, g2, g3, g4, g5⟩
      · exact .inl ⟨(hCn k hk).trans g1, g2, fun e he => g3 e (ho e he)⟩
      · exact .inr ⟨b, n, c, (hCn k hk).trans g1, g2, g3, g4, fun e he => g5 e (ho e he)⟩
    | box k off =>
      obtain ⟨b, hb, hv⟩ := hv
      exact ⟨b, (hCn k (hn k (by simp [Cell.refs]))).trans hb, hv⟩
    | ep k i off =>
      intro e he
      have hk := hn k (by simp [Cell.refs])
      rcases hs.own k e he with ⟨h1, _⟩ | ⟨_, h2⟩
      · rw [hk] at h1; cases h1
      · obtain ⟨b, hb, hv⟩ := hv e h2
        exact ⟨b, (hCn k hk).trans hb, hv⟩
    | view k lo n =>
      intro e he
      have hk := hn k (by simp [Cell.refs])
      rcases hs.own k e he with ⟨h1, _⟩ | ⟨_, h2⟩
      · rw [hk] at h1; cases h1
      · obtain ⟨p, c, g1, g2, g3, g4⟩ := hv e h2
        exact ⟨p, c, g1, g2, g3, fun h0 => let ⟨b, q1, q2⟩ := g4 h0; ⟨b, (hCn k hk).trans q1, q2⟩⟩
    | cp cs =>
      obtain ⟨a, g1, g2, g3⟩ := hv
      exact ⟨a, g1, hs.ok hbad _ g2, fun j x hj => (g3 j x hj).imp fun u hu => ⟨hu.1, hu.2.mono (fun _ _ => rfl) (fun b hb => hs.ok hbad b hb)⟩⟩
    | fn f caps =>
      obtain ⟨vs, g1, g2, g3⟩ := hv
      refine ⟨vs, g1, by simpa using g2, fun j k hj => ?_⟩
      obtain ⟨b, hb, hu⟩ := g3 j (ρ k) (by rw [List.getElem?_map, hj]; rfl)
      exact ⟨b, (hCn k (hn k (List.mem_of_getElem? hj))).trans hb, hu⟩
    | nilp => exact hv
    | nili => exact hv
    | undef => trivial
    | nilm => exact hv
    | nilf => exact hv
    | mapp k =>
      obtain ⟨b, hb, hv⟩ := hv
      exact ⟨b, (hCn k (hn k (by simp [Cell.refs]))).trans hb, hv⟩
    | mapc ka va l =>
      obtain ⟨me, cl, es, g1, g2, g3⟩ := hv
      exact ⟨me, cl, es, g1, g2.mono (fun _ _ => rfl) (fun b hb => hs.ok hbad b hb), g3⟩
    | mapg ka va me cl =>
      obtain ⟨es, g1, g2⟩ := hv
      exact ⟨es, g1, g2.mono (fun _ _ => rfl) (fun b hb => hs.ok hbad b hb)⟩
    | iterc k me cl rest cu =>
      obtain ⟨b, seen, g1, g2, g3⟩ := hv
      exact ⟨b, seen, (hCn k (hn k (by simp [Cell.refs]))).trans g1, g2, g3⟩
    | iters s p => exact hv
    | selfp k t =>
      rcases hv with hv | ⟨b, hb, hv⟩
      · exact .inl hv
      · exact .inr ⟨b, (hCn k (hn k (by simp [Cell.refs]))).trans hb, hv⟩
  · -- a slice of one's own, as data
    have key : ∀ e, st.own id = some e → xs = e.xs.take (p.getD e.xs.length) → DRep w (okOf B' (m.st t nx) (seeC C ρ nils) w) (.lst xs) v := by
      intro e ho hx
      rcases hv with ⟨g1, g2, g3⟩ | ⟨b, n, c, g1, g2, g3, g4, g5⟩
      · have : xs = [] := by rw [hx, g3 e ho]; rfl
        subst this
        rw [g2]; exact .lnil _ _
      · obtain ⟨h5, h6, arr, hh, has⟩ := g5 e ho
        obtain ⟨h0, h1⟩ := h.own id e ho
        rcases h1 with ⟨h1, _⟩ | ⟨b', arr', h1, h2, h3, h4, h5'⟩
        · rw [g1] at h1; cases h1
        · rw [g1] at h1; cases h1
          have hxl : xs.length = n := by rw [hx, h5]; simp; omega
          by_cases hx0 : xs = []
          · rw [g2, show n = 0 by rw [← hxl, hx0]; rfl, hx0]; exact .lnil _ _
          · rw [g2, ← hxl]
            have hget : ∀ (i : Nat) (cs : List D), xs[i]? = some cs → e.xs[i]? = some cs := fun i cs hi => by
              rw [hx, List.getElem?_take] at hi
              split at hi
              · exact hi
              · cases hi
            refine .lst xs ⟨b, 0, none⟩ c e.sz (fun i j => (arr'[i * e.sz + j]?).getD Go.undef) hx0 (by omega) ⟨(Array.getElem?_eq_some_iff.1 h2).1, hlb id b hlen (.inl (by rw [ho]; simp)) g1, fun k hk => ?_⟩ ?_ ?_ ?_
            · unfold seeC
              split
              · simp
              · rename_i hn
                have hn' : nils k = false := by simpa using hn
                intro hb
                have hid := h.inj _ _ _ (hs.live hk hn') (.inl (by rw [ho]; simp)) hb g1
                rcases hk with hk | hk
                · exact hlend k hk hn' hid
                · obtain ⟨cs, hcs⟩ := Option.ne_none_iff_exists'.1 hk
                  obtain ⟨_, cs0, hb0, _⟩ := hs.box k cs hcs
                  rw [hid] at hb0
                  rcases h.excl id with h6 | h6
                  · rw [ho] at h6; cases h6
                  · rw [hb0] at h6; cases h6
            · intro cs hcs
              exact h4 cs (by rw [hx] at hcs; exact List.mem_of_mem_take hcs)
            · intro i j cs x hi hj
              obtain ⟨u, hu, _⟩ := h5' i j cs x (hget i cs hi) hj
              rw [add_off]
              simp [World.cell?, h2, hu]
            · intro i j cs x hi hj
              obtain ⟨u, hu, hr⟩ := h5' i j cs x (hget i cs hi) hj
              rw [hu]
              exact hr.mono (fun _ _ => rfl) (fun b hb => hs.ok hbad b hb)
    cases p with
    | none =>
      simp only [St.elems, Option.map_eq_some_iff] at hel
      obtain ⟨e, ho, he⟩ := hel
      injection he with he _; subst he
      exact key e ho (by simp)
    | some n =>
      simp only [St.elems, Option.map_eq_some_iff] at hel
      obtain ⟨e, ho, he⟩ := hel
      injection he with he _; subst he
      exact key e ho (by simp)
  · rw [show v = _ from hv]; exact .lnil _ _
  · refine .inl ⟨by simp [seeC, hk], hv, fun e he => ?_⟩
    rw [hk0 e he]; rfl
  · have hv' : CRep w (okOf B' (m.st t nx) (seeC C ρ nils) w) (seeC C ρ nils) (m.st t nx).own A0 v := by
      cases A0 with
      | mapc ka va l =>
        obtain ⟨me, cl, es, g1, g2, g3⟩ := hv
        exact ⟨me, cl, es, g1, g2.mono (fun _ _ => rfl) (fun b hb => hs.ok hbad b hb), g3⟩
      | mapg ka va me cl =>
        obtain ⟨es, g1, g2⟩ := hv
        exact ⟨es, g1, g2.mono (fun _ _ => rfl) (fun b hb => hs.ok hbad b hb)⟩
      | iterc k me cl rest cu =>
        obtain ⟨b, seen, g1, g2, g3⟩ := hv
        exact ⟨b, seen, (hCn k (hn k (by simp [Cell.refs]))).trans g1, g2, g3⟩
      | iters s p => exact hv
      | _ => exact absurd hlk.content.1 (by simp [Cell.content])
    exact hlk.rep hv'

theorem L2.rep {R R' : Cell → Value → Prop} {S : Cell → Cell → Prop} {cs cs' : List Cell} (h : L2 S cs cs') (hi : ∀ c c' u, S c c' → R c u → R' c' u) {vs : Array Value} (hv : vs.size = cs.length)
    (hr : ∀ (j : Nat) (c : Cell), cs[j]? = some c → ∃ u, vs[j]? = some u ∧ R c u) : vs.size = cs'.length ∧ ∀ (j : Nat) (c : Cell), cs'[j]? = some c → ∃ u, vs[j]? = some u ∧ R' c u := by
  obtain ⟨h1, h2⟩ := h.get
  refine ⟨hv.trans h1, fun j c' hj => ?_⟩
  obtain ⟨c, hc, hs⟩ := h2 j c' hj
  obtain ⟨u, hu, hr⟩ := hr j c hc
  exact ⟨u, hu, hi c c' u hs hr⟩

theorem T1See.rep {R R' : Cell → Value → Prop} {S : Cell → Cell → Prop} {x y : T1} {v : Value} (h : T1See S x y) (hi : ∀ c c' u, S c c' → R c u → R' c' u) (hr : T1Rep R x v) : T1Rep R' y v := by
  cases x <;> cases y <;> simp only [T1See] at h
  · exact hi _ _ _ h hr
  · obtain ⟨vs, e, h1, h2⟩ := hr
    obtain ⟨h3, h4⟩ := h.rep hi h1 h2
    exact ⟨vs, e, h3, h4⟩

theorem TVSee.rep {R R' : Cell → Value → Prop} {S : Cell → Cell → Prop} {x y : TV} {v : Value} (h : TVSee S x y) (hi : ∀ c c' u, S c c' → R c u → R' c' u) (h0 : ∀ u, R' .undef u) (hr : TRep R x v) : TRep R' y v := by
  unfold TVSee at h
  split at h
  · exact h0 v
  · exact T1See.rep h hi hr
  · rename_i xs ys _ _
    obtain ⟨vs, e, h1, h2⟩ := hr
    obtain ⟨h3, h4⟩ := h.get
    refine ⟨vs, e, h1.trans h3, fun j y hj => ?_⟩
    obtain ⟨x, hx, hs⟩ := h4 j y hj
    obtain ⟨u, hu, hr⟩ := h2 j x hx
    exact ⟨u, hu, T1See.rep hs hi hr⟩
  · exact h.elim

/-- The memory that is seen. -/
theorem Sees.mm (h : Mm B C st w) (hs : Sees len st ρ nils m) (hbad : ∀ b, okOf B st C w b → ¬ B'.bad b) (hlb : ∀ id b, len id → Live st id → C id = some b → ¬ B'.bad b)
    (hnb : ∀ k b, m.live k → seeC C ρ nils k = some b → ¬ B'.bad b) (hlt : BadLt B') (hfr : Fr B'.w0 B'.Wr w) (hanc : ∀ id ∈ B'.anc, seeC C ρ nils id = B'.C0 id)
    (hwr : ∀ k b, m.live k → seeC C ρ nils k = some b → B'.Wr b ∨ B'.w0.heap.size ≤ b) : Mm B' (seeC C ρ nils) (m.st t nx) w where
  own k e he := by
    rcases hs.own k e he with ⟨h1, h2, h3⟩ | ⟨h1, h2⟩
    · exact ⟨h3, .inl ⟨by simp [seeC, h1], h2⟩⟩
    · exact (h.own _ e h2).mono (C' := fun _ => seeC C ρ nils k) (id := ρ k) (by simp [seeC, h1]) (fun _ _ => rfl) (fun _ _ => rfl) (fun b hb => hs.ok hbad b hb) |> fun x => x
  box k cs he := by
    obtain ⟨h1, cs0, h2, h3⟩ := hs.box k cs he
    obtain ⟨b, o, arr, g1, g2, g2a, g2b, g3, g4⟩ := h.box _ cs0 h2
    obtain ⟨g5, g6⟩ := L2.rep (R := CRep w (okOf B st C w) C st.own) (R' := CRep w (okOf B' (m.st t nx) (seeC C ρ nils) w) (seeC C ρ nils) (m.st t nx).own) h3 (fun c c' u hs' hr => hs.cell h hbad hlb hs' hr) g3 g4
    exact ⟨b, o, arr, by simp [seeC, h1, g1], g2, g2a, g2b.see h3, g5, g6⟩
  excl := hs.excl
  inj k k' b hk hk' hb hb' := by
    unfold seeC at hb hb'
    split at hb
    · cases hb
    · split at hb'
      · cases hb'
      · rename_i n1 n2
        have n1' : nils k = false := by simpa using n1
        have n2' : nils k' = false := by simpa using n2
        exact hs.inj k k' hk hk' n1' n2' (h.inj _ _ b (hs.live hk n1') (hs.live hk' n2') hb hb')
  wr := hwr
  anc := hanc
  fr := hfr
  nb := hnb
  badlt := hlt
end
end Go.Eng
