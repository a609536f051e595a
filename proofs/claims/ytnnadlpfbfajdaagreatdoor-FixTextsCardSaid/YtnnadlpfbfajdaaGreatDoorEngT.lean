/-
The rules in the form that a program prints them; plain functions with loops.
-/
import Derived.Test.YtnnadlpfbfajdaaGreatDoorEngS
namespace Go.Eng
open Go
set_option linter.unusedVariables false
set_option linter.unusedSimpArgs false

/-! ### Plain functions -/
theorem Rounds.det {σ ρ : Type} {f : σ → Option (σ ⊕ ρ)} {s : σ} {r r' : ρ} (h : Rounds f s r) (h' : Rounds f s r') : r = r' := by
  induction h with
  | last h1 => cases h' with
    | last h2 => rw [h1] at h2; injection h2 with h2; injection h2
    | more h2 _ => rw [h1] at h2; injection h2 with h2; cases h2
  | more h1 _ ih => cases h' with
    | last h2 => rw [h1] at h2; injection h2 with h2; cases h2
    | more h2 h3 => rw [h1] at h2; injection h2 with h2; injection h2 with h2; subst h2; exact ih h3
/-- A loop, at most so many rounds. -/
def loopF {σ ρ : Type} (f : σ → Option (σ ⊕ ρ)) : Nat → σ → Option ρ
  | 0, _ => none
  | n + 1, s => match f s with
    | none => none
    | some (.inl s') => loopF f n s'
    | some (.inr r) => some r
theorem loopF_rounds {σ ρ : Type} {f : σ → Option (σ ⊕ ρ)} {r : ρ} : ∀ {n : Nat} {s : σ}, loopF f n s = some r → Rounds f s r
  | 0, _, h => nomatch h
  | n + 1, s, h => by
    unfold loopF at h
    split at h
    · cases h
    · rename_i h1; exact .more h1 (loopF_rounds h)
    · rename_i h1; injection h with h; subst h; exact .last h1
open Classical in
/-- A loop: rounds until an answer. -/
noncomputable def loopO {σ ρ : Type} (f : σ → Option (σ ⊕ ρ)) (s : σ) : Option ρ := match loopF f 100 s with
  | some r => some r
  | none => if h : ∃ r, Rounds f s r then some h.choose else none
theorem loopO_rounds {σ ρ : Type} {f : σ → Option (σ ⊕ ρ)} {s : σ} {r : ρ} (h : loopO f s = some r) : Rounds f s r := by
  unfold loopO at h
  split at h
  · rename_i h1; injection h with h; subst h; exact loopF_rounds h1
  · split at h
    · rename_i hx; injection h with h; subst h; exact hx.choose_spec
    · cases h
theorem rounds_loopO {σ ρ : Type} {f : σ → Option (σ ⊕ ρ)} {s : σ} {r : ρ} (h : Rounds f s r) : loopO f s = some r := by
  unfold loopO
  split
  · rename_i h1; exact congrArg some ((loopF_rounds h1).det h)
  · have hx : ∃ r, Rounds f s r := ⟨r, h⟩
    rw [dif_pos hx]
    exact congrArg some (hx.choose_spec.det h)
theorem loopO_eq {σ ρ : Type} (f : σ → Option (σ ⊕ ρ)) (s : σ) : loopO f s = (f s).bind fun x => match x with | .inl s' => loopO f s' | .inr r => some r := by
  cases hf : f s with
  | none =>
    show loopO f s = none
    cases h : loopO f s with
    | none => rfl
    | some r =>
      cases loopO_rounds h with
      | last h1 => rw [hf] at h1; cases h1
      | more h1 _ => rw [hf] at h1; cases h1
  | some x =>
    cases x with
    | inr r => exact rounds_loopO (.last hf)
    | inl s' =>
      show loopO f s = loopO f s'
      cases hs : loopO f s' with
      | some r => exact rounds_loopO (.more hf (loopO_rounds hs))
      | none =>
        cases h : loopO f s with
        | none => rfl
        | some r =>
          cases loopO_rounds h with
          | last h1 => rw [hf] at h1; injection h1 with h1; cases h1
          | more h1 h2 =>
            rw [hf] at h1; injection h1 with h1; injection h1 with h1; subst h1
            rw [rounds_loopO h2] at hs; cases hs

def gd {α : Type} (p : Bool) (x : Option α) : Option α := bif p then x else none
theorem gd_some {α : Type} {p : Bool} {x : Option α} {r : α} (h : gd p x = some r) : p = true ∧ x = some r := by
  cases p <;> simp_all [gd]
theorem gd_true {α : Type} {p : Bool} {x : Option α} (h : p = true) : gd p x = x := by subst h; rfl
theorem bind_some {α β : Type} {x : Option α} {f : α → Option β} {r : β} (h : x.bind f = some r) : ∃ y, x = some y ∧ f y = some r := by
  cases x with
  | none => cases h
  | some y => exact ⟨y, rfl, h⟩
theorem cond_or {α : Type} {b : Bool} {x y : α} {r : α} (h : cond b x y = r) : (b = true ∧ x = r) ∨ (b = false ∧ y = r) := by
  cases b <;> simp_all
theorem some_eq {α : Type} {x r : α} (h : some x = some r) : x = r := by injection h

def encI (k : IntKind) (n : Int) : List D := [.int k n]
def encB (b : Bool) : List D := [.bool b]
def encS (s : List UInt8) : List D := [.str s]
def encL {α : Type} (f : α → List D) (xs : List α) : List D := [.lst (xs.map f)]

/-! ### Parts of code -/
def cL : Code → Code
  | .seq x _ => x
  | .cond _ x _ => x
  | .block _ x => x
  | .loop x => x
  | c => c
def cR : Code → Code
  | .seq _ y => y
  | .cond _ _ y => y
  | c => c
def cB (f : Func) : Code := f.body.getD .skip

/-! ### Operations -/
def dstOk (nt : Nat) : Option Nat → Bool
  | none => true
  | some d => Nat.blt d nt
theorem dstOk_spec {nt : Nat} {d : Option Nat} (h : dstOk nt d = true) : ∀ x, d = some x → x < nt := by
  rintro x rfl
  simpa [dstOk, Nat.blt_eq] using h
def opX (Γ : Types) (nt : Nat) (ops : Array Oper) (base : Nat) (o : Oper) (st : St) : Option (TV × List (Nat × Option OwnB) × List (Nat × Option (List Cell))) :=
  match dstOk nt o.dst, guardB ops o st with
  | true, some true => match aeff Γ base o.op st with
    | some e => some (e.v, e.ou, e.bu)
    | none => none
  | _, _ => none
def skX (nt : Nat) (ops : Array Oper) (o : Oper) (st : St) : Bool := dstOk nt o.dst && match guardB ops o st with
  | some false => true
  | _ => false

section
variable {P : Program} {Γ : Types} {A nt : Nat} {ops : Array Oper} {base k : Nat} {o : Oper} {l : List Oper} {K : St → Prop} {st : St} {Q : AEx → St → Prop}

theorem opX_spec {v : TV} {ou : List (Nat × Option OwnB)} {bu : List (Nat × Option (List Cell))} (h : opX Γ nt ops base o st = some (v, ou, bu)) :
    (∀ d, o.dst = some d → d < nt) ∧ guardB ops o st = some true ∧ ∃ us, aeff Γ base o.op st = some ⟨v, ou, bu, us⟩ := by
  unfold opX at h
  split at h
  · rename_i h1 h2
    split at h
    · rename_i e he
      injection h with h
      injection h with h3 h4
      injection h4 with h4 h5
      exact ⟨dstOk_spec h1, h2, e.use, by rw [he]; cases e; simp_all⟩
    · cases h
  · cases h
theorem opx_of {v : TV} {ou : List (Nat × Option OwnB)} {bu : List (Nat × Option (List Cell))} {us : List Nat} (hd : dstOk nt o.dst = true) (hg : guardB ops o st = some true) (he : aeff Γ base o.op st = some ⟨v, ou, bu, us⟩) : opX Γ nt ops base o st = some (v, ou, bu) := by
  unfold opX
  rw [hd, hg, he]
theorem skX_spec (h : skX nt ops o st = true) : (∀ d, o.dst = some d → d < nt) ∧ guardB ops o st = some false := by
  unfold skX at h
  rw [Bool.and_eq_true] at h
  refine ⟨dstOk_spec h.1, ?_⟩
  have h2 := h.2
  split at h2
  · assumption
  · cases h2

theorem does_use {e : Eff} {us : List Nat} (h : Does P o base st e) : Does P o base st ⟨e.v, e.ou, e.bu, us⟩ :=
  fun B N nt C a w K Q hi hN hK => h B N nt C a w K Q hi hN fun v w' C' hA => hK v w' C' ⟨hA.mm, hA.keep, hA.val, hA.res, hA.vres, hA.sub⟩

theorem aops_eff (hΓ : TypesOk P Γ) (v : TV) (ou : List (Nat × Option OwnB)) (bu : List (Nat × Option (List Cell))) (h : opX Γ nt ops (base + 1000 * k) o st = some (v, ou, bu))
    (hn : Aops P nt ops base (k + 1) l K (st.app o.dst ⟨v, ou, bu, []⟩)) : Aops P nt ops base k (o :: l) K st := by
  obtain ⟨h1, h2, us, h3⟩ := opX_spec h
  exact aops_do h2 h1 (does_use (e := ⟨v, ou, bu, us⟩) (does_eff hΓ h3)) hn
theorem aops_skip' (h : skX nt ops o st = true) (hn : Aops P nt ops base (k + 1) l K (st.put o.dst (.tup []))) : Aops P nt ops base k (o :: l) K st :=
  aops_skip (skX_spec h).2 (skX_spec h).1 hn
theorem aops_call {e : Eff} (hd : dstOk nt o.dst = true) (hg : guardB ops o st = some true) (h : Does P o (base + 1000 * k) st e) (v : TV) (ou : List (Nat × Option OwnB)) (bu : List (Nat × Option (List Cell)))
    (he : (e.v, e.ou, e.bu) = (v, ou, bu)) (hn : Aops P nt ops base (k + 1) l K (st.app o.dst ⟨v, ou, bu, []⟩)) : Aops P nt ops base k (o :: l) K st := by
  injection he with h1 h2
  injection h2 with h2 h3
  subst h1 h2 h3
  exact aops_do hg (dstOk_spec hd) (does_use h) hn

theorem awp_region' (base nx : Nat) {id : Nat} {l : List Oper} (hb : st.next = base) (hn : base + 1000 * l.length = nx) (h : Aops P nt ⟨l⟩ base 0 l (fun st' => Q .normal (st'.nx nx)) st) : Awp P A nt (.region id ⟨l⟩ false) Q st := by
  subst hb hn
  exact awp_region h

/-! ### Parts with several ends -/
def Out {ρ : Type} (A : Nat) (k : ρ → AEx) (S : ρ → St) (r : ρ) (ae : AEx) (st : St) : Prop := ae = k r ∧ To A st (S r)
theorem awp_sub {ρ : Type} {k : ρ → AEx} {S : ρ → St} {r : ρ} {c : Code} (hx : Awp P A nt c (Out A k S r) st) (hq : Q (k r) (S r)) : Awp P A nt c Q st :=
  awp_to_post (awp_mono hx fun ae st' ⟨h1, h2⟩ => ⟨S r, h2, h1 ▸ hq⟩)
def kk {σ ρ : Type} (k : ρ → AEx) : σ ⊕ ρ → AEx
  | .inl _ => .normal
  | .inr r => k r
def SS {σ ρ : Type} (Sh : σ → St) (S : ρ → St) : σ ⊕ ρ → St
  | .inl s => Sh s
  | .inr r => S r
theorem awp_loop' {σ ρ : Type} {f : σ → Option (σ ⊕ ρ)} (Sh : σ → St) (k : ρ → AEx) (S : ρ → St) {c : Code} {s : σ} {r : ρ} (hk : ∀ r, k r ≠ .normal) (hr : loopO f s = some r)
    (round : ∀ s x, f s = some x → Awp P A nt c (Out A (kk k) (SS Sh S) x) (Sh s)) : Awp P A nt (.loop c) (Out A k S r) (Sh s) := by
  refine awp_loop (fun s st => To A st (Sh s)) (fun r => Out A k S r) (loopO_rounds hr) (To.refl A _) fun s x st hst hf => awp_to hst (awp_mono (round s x hf) ?_)
  rintro ae st' ⟨h1, h2⟩
  cases x with
  | inl s' => rw [show ae = .normal from h1]; exact ⟨s', rfl, h2⟩
  | inr r =>
    have h1' : ae = k r := h1
    have := hk r
    cases ae with
    | normal => exact absurd h1'.symm this
    | exit id => exact ⟨r, rfl, h1', h2⟩
    | ret => exact ⟨r, rfl, h1', h2⟩
end

/-! ### Bool forms -/
def Mem.leftB (m m' : Mem) (tv : TV) (lens : List Nat) (fl : Bool) : Bool :=
  nodupB (m'.own.map Prod.fst) && nodupB (m'.box.map Prod.fst) && (m.box.all fun p => (m'.box.lookup p.1).isSome) &&
  (m'.own.all fun p => (m.box.lookup p.1).isSome || Nat.blt p.1 1000) && (m'.box.all fun p => (m.box.lookup p.1).isSome || Nat.blt p.1 1000) &&
  (tv.refs.all fun k => (m.box.lookup k).isSome || Nat.blt k 1000) && (m'.box.all fun p => p.2.all fun c => c.refs.all fun k => (m.box.lookup k).isSome || Nat.blt k 1000) &&
  (lens.isEmpty || ((fl || m'.own.isEmpty) && (tv.cs.all Cell.flat) && m'.box.all fun p => p.2.all Cell.flat))
theorem left_of {m m' : Mem} {tv : TV} {lens : List Nat} {fl : Bool} (hfl : fl = true → PlainO m'.own) (h : m.leftB m' tv lens fl = true) : Left m m' lens tv := by
  simp only [Mem.leftB, Bool.and_eq_true] at h
  obtain ⟨⟨⟨⟨⟨⟨⟨h1, h2⟩, h3⟩, h4⟩, h5⟩, h6⟩, h7⟩, h8⟩ := h
  have ok : ∀ k, ((m.box.lookup k).isSome || Nat.blt k 1000) = true → m.box.lookup k ≠ none ∨ k < 1000 := by
    intro k hk
    rw [Bool.or_eq_true] at hk
    exact hk.imp (fun h => Option.isSome_iff_ne_none.1 h) (fun h => by simpa [Nat.blt_eq] using h)
  refine ⟨nodupB_spec h1, nodupB_spec h2, fun k hk => ?_, fun k hk => ?_, fun k hk => ok k (List.all_eq_true.1 h6 k hk), fun j cs c hj hc k hk => ok k (List.all_eq_true.1 (List.all_eq_true.1 (List.all_eq_true.1 h7 _ (mem_lookup hj)) c hc) k hk), ?_⟩
  · obtain ⟨cs, hcs⟩ := Option.ne_none_iff_exists'.1 hk
    exact Option.isSome_iff_ne_none.1 (List.all_eq_true.1 h3 _ (mem_lookup hcs))
  · rcases hk with hk | hk
    · obtain ⟨cs, hcs⟩ := Option.ne_none_iff_exists'.1 hk
      exact ok k (List.all_eq_true.1 h4 _ (mem_lookup hcs))
    · obtain ⟨cs, hcs⟩ := Option.ne_none_iff_exists'.1 hk
      exact ok k (List.all_eq_true.1 h5 _ (mem_lookup hcs))
  · rw [Bool.or_eq_true] at h8
    refine h8.imp (fun h => by simpa using h) fun h => ?_
    simp only [Bool.and_eq_true] at h
    refine ⟨?_, fun c hc => List.all_eq_true.1 h.1.2 c hc, fun j cs c hj hc => List.all_eq_true.1 (List.all_eq_true.1 h.2 _ (mem_lookup hj)) c hc⟩
    have h1 := h.1.1
    rw [Bool.or_eq_true] at h1
    rcases h1 with h1 | h1
    · exact hfl h1
    · rw [show m'.own = [] by simpa using h1]; intro k e he; cases he

/-! ### Operations that may fail -/
section
variable {Γ : Types} {base : Nat} {st : St} {α : Type} {f : α → List D}

theorem at_map {l : List α} {n : Int} {x : α} (h : at? l n = some x) : at? (l.map f) n = some (f x) := by
  unfold at? at h ⊢
  split at h
  · rename_i hn; simp only [hn, if_true]; simp [h]
  · cases h
theorem sub_map {l r : List α} {a b : Int} (h : sub? l a b = some r) : sub? (l.map f) a b = some (r.map f) := by
  unfold sub? at h ⊢
  split at h
  · rename_i hn
    injection h with h; subst h
    rw [if_pos (by simpa using hn)]
    simp [List.map_take, List.map_drop]
  · cases h

theorem eff_indexAddr {t et : TypeId} {ti te : TI} {x i : Operand} {l : List α} {k : IntKind} {n : Int} {y : α} (ht : Γ.lookup t = some ti) (hk : ti.kind = .slice et) (he : Γ.lookup et = some te)
    (hx : st.ev x = some (.c (.d (.lst (l.map f))))) (hi : st.ev i = some (.int k n)) (h : at? l n = some y) (hs : ((f y).length == te.sz) = true) : aeff Γ base (.indexAddr t x i) st = some ⟨.c (.cp (f y)), [], [], []⟩ := by
  obtain ⟨s1, s2, s3, s4, s5⟩ := ti
  subst hk
  simp only [aeff, ht, hx, hi, he, at_map h]
  rw [if_pos (by simpa using hs)]

theorem eff_slice {t et : TypeId} {ti te : TI} {x : Operand} {lo hi : Option Operand} {l r : List α} {a b : Int} (ht : Γ.lookup t = some ti) (hk : ti.kind = .slice et) (he : Γ.lookup et = some te)
    (hx : st.ev x = some (.c (.d (.lst (l.map f))))) (hlo : aeff.bnd st lo 0 = some a) (hhi : aeff.bnd st hi ((l.map f).length : Nat) = some b) (h : sub? l a b = some r) (hs : ∀ y, (f y).length = te.sz) :
    aeff Γ base (.slice t x lo hi none) st = some ⟨.c (.d (.lst (r.map f))), [], [], []⟩ := by
  obtain ⟨s1, s2, s3, s4, s5⟩ := ti
  subst hk
  simp only [aeff, ht, hx, he, hlo, hhi]
  rw [if_pos (by simp [hs]), sub_map h]
  rfl

theorem eff_sliceS {t : TypeId} {ti : TI} {x : Operand} {lo hi : Option Operand} {l r : List UInt8} {a b : Int} (ht : Γ.lookup t = some ti) (hk : ti.kind = .str)
    (hx : st.ev x = some (.c (.d (.str l)))) (hlo : aeff.bnd st lo 0 = some a) (hhi : aeff.bnd st hi (l.length : Nat) = some b) (h : sub? l a b = some r) :
    aeff Γ base (.slice t x lo hi none) st = some ⟨.c (.d (.str r)), [], [], []⟩ := by
  obtain ⟨s1, s2, s3, s4, s5⟩ := ti
  subst hk
  simp only [aeff, ht, hx, hlo, hhi, h]
  rfl

theorem eff_indexS {t : TypeId} {ti : TI} {x i : Operand} {l : List UInt8} {k : IntKind} {n : Int} {y : UInt8} (ht : Γ.lookup t = some ti) (hk : ti.kind = .str)
    (hx : st.ev x = some (.c (.d (.str l)))) (hi : st.ev i = some (.int k n)) (h : at? l n = some y) : aeff Γ base (.index t x i) st = some ⟨.int .u8 y.toNat, [], [], []⟩ := by
  obtain ⟨s1, s2, s3, s4, s5⟩ := ti
  subst hk
  simp only [aeff, ht, hx, hi, h]
  rfl

theorem eff_appendN {t et : TypeId} {ti te : TI} {x y : Operand} {tv : TV} {ys : List α} {us : List Nat} (ht : Γ.lookup t = some ti) (hk : ti.kind = .slice et) (he : Γ.lookup et = some te)
    (hx : st.ev x = some (.c .nil)) (hy : st.ev y = some tv) (hel : st.elems tv = some (ys.map f, us)) (hs : ∀ y, (f y).length = te.sz) (hte : 0 < te.sz ∧ te.bytes ≤ 1024 ∧ 0 < te.bytes) (hl : Nat.ble ys.length LIM = true) :
    aeff Γ base (.call ⟨.builtin .append, ⟨[x, y]⟩, ⟨[t, t]⟩⟩) st = some ⟨.c (.own base none), [(base, some ⟨et, te.sz, ys.map f⟩)], [], base :: us⟩ := by
  obtain ⟨s1, s2, s3, s4, s5⟩ := ti
  subst hk
  rw [Nat.ble_eq] at hl
  simp only [aeff, St.evs, hx, hy, hel, if_true, aappend, ht, he]
  rw [if_pos ⟨hte.1, hte.2.1, hte.2.2, by simp [hs]⟩, if_pos (by simpa using hl)]

theorem eff_append {t et : TypeId} {ti te : TI} {x y : Operand} {tv : TV} {id : Nat} {l ys : List α} {us : List Nat} (ht : Γ.lookup t = some ti) (hk : ti.kind = .slice et) (he : Γ.lookup et = some te)
    (hx : st.ev x = some (.c (.own id none))) (ho : st.own id = some ⟨et, te.sz, l.map f⟩) (hy : st.ev y = some tv) (hel : st.elems tv = some (ys.map f, us)) (hs : ∀ y, (f y).length = te.sz) (hte : 0 < te.sz ∧ te.bytes ≤ 1024 ∧ 0 < te.bytes) (hl : Nat.ble (l.length + ys.length) LIM = true) :
    aeff Γ base (.call ⟨.builtin .append, ⟨[x, y]⟩, ⟨[t, t]⟩⟩) st = some ⟨.c (.own base none), [(id, none), (base, some ⟨et, te.sz, (l ++ ys).map f⟩)], [], base :: id :: us⟩ := by
  obtain ⟨s1, s2, s3, s4, s5⟩ := ti
  subst hk
  rw [Nat.ble_eq] at hl
  simp only [aeff, St.evs, hx, hy, hel, if_true, aappend, ht, he, ownEt, ho]
  rw [if_pos ⟨hte.1, hte.2.1, hte.2.2, by simp [hs]⟩]
  simp only [and_self, if_true]
  rw [if_pos (by simpa using hl), List.map_append]

theorem len_lst {l : List α} {v : TV} (h : v = .i ((l.map f).length : Nat)) : v = .i (l.length : Nat) := by rw [h, List.length_map]

theorem eff_quo {t t' : TypeId} {ti : TI} {k : IntKind} {x y : Operand} {a b : Int} (ht : Γ.lookup t = some ti) (hx : st.ev x = some (.int k a)) (hy : st.ev y = some (.int k b)) (hb : (b == 0) = false) :
    aeff Γ base (.binOp .quo t x y t') st = some ⟨.int k (k.wrap (a.tdiv b)), [], [], []⟩ := by
  have hb' : ¬ b = 0 := by simpa using hb
  simp [aeff, ht, hx, hy, abinC, abin, hb', Cell.refs]
theorem eff_rem {t t' : TypeId} {ti : TI} {k : IntKind} {x y : Operand} {a b : Int} (ht : Γ.lookup t = some ti) (hx : st.ev x = some (.int k a)) (hy : st.ev y = some (.int k b)) (hb : (b == 0) = false) :
    aeff Γ base (.binOp .rem t x y t') st = some ⟨.int k (a.tmod b), [], [], []⟩ := by
  have hb' : ¬ b = 0 := by simpa using hb
  simp [aeff, ht, hx, hy, abinC, abin, hb', Cell.refs]
theorem eff_concat {t t' : TypeId} {ti : TI} {x y : Operand} {a b : List UInt8} (ht : Γ.lookup t = some ti) (hx : st.ev x = some (.c (.d (.str a)))) (hy : st.ev y = some (.c (.d (.str b)))) (hb : Nat.ble (a.length + b.length) LIM = true) :
    aeff Γ base (.binOp .add t x y t') st = some ⟨.c (.d (.str (a ++ b))), [], [], []⟩ := by
  rw [Nat.ble_eq] at hb
  simp [aeff, ht, hx, hy, abinC, abin, hb, Cell.refs]
end
end Go.Eng
