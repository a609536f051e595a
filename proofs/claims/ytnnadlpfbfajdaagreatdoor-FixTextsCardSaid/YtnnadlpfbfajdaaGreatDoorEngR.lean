/-
An operation's effect hangs only on what it looks at.
-/
import Derived.Test.YtnnadlpfbfajdaaGreatDoorEngQ
namespace Go.Eng
open Go
set_option linter.unusedVariables false
set_option linter.unusedSimpArgs false

def AgV (σ st : St) (tv : TV) : Prop := ∀ id ∈ tv.refs, σ.own id = st.own id ∧ σ.box id = st.box id

section
variable {Γ : Types} {base : Nat} {σ st : St}

theorem elems_congr {tv : TV} (h : AgV σ st tv) : σ.elems tv = st.elems tv := by
  unfold St.elems
  split <;> first
    | rfl
    | (rename_i id; rw [(h id (by simp [TV.refs, T1.refs, Cell.refs])).1])
    | (rename_i id _; rw [(h id (by simp [TV.refs, T1.refs, Cell.refs])).1])
    | (rename_i id _ _; rw [(h id (by simp [TV.refs, T1.refs, Cell.refs])).1])
theorem lenOf_congr {tv : TV} (h : AgV σ st tv) : lenOf σ tv = lenOf st tv := by
  unfold lenOf
  split <;> first
    | rfl
    | (rename_i id _; rw [(h id (by simp [TV.refs, T1.refs, Cell.refs])).1])
    | (rename_i id _ _; rw [(h id (by simp [TV.refs, T1.refs, Cell.refs])).1])
theorem isPtr_congr {c : Cell} (h : AgV σ st (.c c)) : σ.isPtr c = st.isPtr c := by
  unfold St.isPtr
  split <;> first
    | rfl
    | (rename_i id _ _; rw [(h id (by simp [TV.refs, T1.refs, Cell.refs])).1])
theorem ownEt_congr {id et sz : Nat} (h : σ.own id = st.own id) : ownEt σ id et sz = ownEt st id et sz := by
  unfold ownEt; rw [h]
theorem abinC_congr {kd : TK} {op : BinOp} {x y : Cell} (hx : AgV σ st (.c x)) (hy : AgV σ st (.c y)) : abinC σ kd op x y = abinC st kd op x y := by
  have a := isPtr_congr hx
  have b := isPtr_congr hy
  cases x <;> cases y <;> first | rfl | (simp only [abinC, a, b])

theorem evs_congr : ∀ {l : List Operand}, (∀ x ∈ l, σ.ev x = st.ev x) → σ.evs l = st.evs l
  | [], _ => rfl
  | x :: l, h => by
    simp only [St.evs]
    rw [h x (by simp), evs_congr (fun y hy => h y (List.mem_cons_of_mem _ hy))]

theorem litRow_congr {sz : Nat} : ∀ {l : List (Nat × Operand)} {i : Nat}, (∀ x ∈ l.map (·.2), σ.ev x = st.ev x) → litRow sz σ i l = litRow sz st i l
  | [], _, _ => rfl
  | (j, x) :: l, i, h => by
    simp only [litRow]
    rw [h x (by simp), litRow_congr (fun y hy => h y (by simp only [List.map_cons]; exact List.mem_cons_of_mem _ hy))]
theorem fillC_congr {fs : List (Nat × TypeId)} : ∀ {l : List (Nat × Operand)} {z : List Cell}, (∀ x ∈ l.map (·.2), σ.ev x = st.ev x) → fillC Γ fs σ z l = fillC Γ fs st z l
  | [], _, _ => rfl
  | (j, x) :: l, z, h => by
    have h2 : ∀ z, fillC Γ fs σ z l = fillC Γ fs st z l := fun z => fillC_congr (fun y hy => h y (by simp only [List.map_cons]; exact List.mem_cons_of_mem _ hy))
    simp only [fillC]
    rw [h x (by simp)]
    simp only [h2]

theorem evs_ag {l : List Operand} (hm : ∀ x ∈ l, ∀ tv, st.ev x = some tv → AgV σ st tv) : ∀ {vs : List TV}, st.evs l = some vs → ∀ v ∈ vs, AgV σ st v := by
  induction l with
  | nil => intro vs h v hv; cases h; cases hv
  | cons x l ih =>
    intro vs h v hv
    simp only [St.evs] at h
    split at h
    · rename_i y ys hy hys
      cases h
      rcases List.mem_cons.1 hv with rfl | hv
      · exact hm x (by simp) _ hy
      · exact ih (fun z hz => hm z (List.mem_cons_of_mem _ hz)) hys v hv
    · cases h

theorem aappend_congr {t : TypeId} {x : TV} {xs : List (List D)} {us : List Nat} (h : AgV σ st x) : aappend Γ base σ t x xs us = aappend Γ base st t x xs us := by
  unfold aappend
  cases x with
  | tup _ => rfl
  | v y =>
    cases y with
    | agg _ => rfl
    | one c =>
      cases c with
      | own id p =>
        have h1 := (h id (by simp [TV.refs, T1.refs, Cell.refs])).1
        cases p with
        | none => simp only [ownEt, h1]
        | some _ => simp only [ownEt, h1]
      | _ => rfl

theorem aeff_congr {o : Op} (hev : ∀ x ∈ o.operands.toList, σ.ev x = st.ev x) (hm : ∀ x ∈ o.operands.toList, ∀ tv, st.ev x = some tv → AgV σ st tv) : aeff Γ base o σ = aeff Γ base o st := by
  cases o with
  | move x => simp only [aeff]; rw [hev x (by simp [Op.operands])]
  | assign x => simp only [aeff]; rw [hev x (by simp [Op.operands])]
  | pick c x y => simp only [aeff]; rw [hev c (by simp [Op.operands]), hev x (by simp [Op.operands]), hev y (by simp [Op.operands])]
  | alloc t => rfl
  | box t x => simp only [aeff]; rw [hev x (by simp [Op.operands])]
  | build t parts =>
    have h : ∀ x ∈ parts.toList.map (·.2), σ.ev x = st.ev x := fun x hx => hev x (by simpa [Op.operands] using hx)
    simp only [aeff]
    split
    · rw [fillC_congr h]
    · rfl
  | buildSlice t n parts =>
    have h : ∀ x ∈ parts.toList.map (·.2), σ.ev x = st.ev x := fun x hx => hev x (by simpa [Op.operands] using hx)
    simp only [aeff]
    split
    · split
      · rw [litRow_congr h]
      · rfl
    · rfl
  | load t x =>
    have h1 := hev x (by simp [Op.operands])
    have h2 := hm x (by simp [Op.operands])
    simp only [aeff]
    rw [h1]
    split
    · rename_i id _ _ hx; rw [(h2 _ hx id (by simp [TV.refs, T1.refs, Cell.refs])).2]
    · rename_i id _ _ _ hx; rw [(h2 _ hx id (by simp [TV.refs, T1.refs, Cell.refs])).1]
    · rfl
    · rfl
  | store t x y =>
    have h1 := hev x (by simp [Op.operands])
    have h1' := hev y (by simp [Op.operands])
    have h2 := hm x (by simp [Op.operands])
    simp only [aeff]
    rw [h1, h1']
    split
    · rename_i id _ _ _ hx _; rw [(h2 _ hx id (by simp [TV.refs, T1.refs, Cell.refs])).2]
    · rename_i id _ _ _ _ hx _; rw [(h2 _ hx id (by simp [TV.refs, T1.refs, Cell.refs])).1]
    · rfl
  | range t x =>
    have h1 := hev x (by simp [Op.operands])
    simp only [aeff]
    rw [h1]
  | next x is =>
    cases is with
    | false => rfl
    | true =>
    have h1 := hev x (by simp [Op.operands])
    have h2 := hm x (by simp [Op.operands])
    simp only [aeff]
    rw [h1]
    split
    · rename_i id hx; rw [(h2 _ hx id (by simp [TV.refs, T1.refs, Cell.refs])).2]
    · rfl
  | makeMap t r => cases r <;> rfl
  | lookup t x y c =>
    have h1 := hev x (by simp [Op.operands])
    have h1' := hev y (by simp [Op.operands])
    have h2 := hm x (by simp [Op.operands])
    simp only [aeff]
    rw [h1, h1']
    split
    · rename_i id _ _ hx _; rw [(h2 _ hx id (by simp [TV.refs, T1.refs, Cell.refs])).2]
    · rfl
  | mapUpdate t m x y =>
    have h1 := hev m (by simp [Op.operands])
    have h1' := hev x (by simp [Op.operands])
    have h1'' := hev y (by simp [Op.operands])
    have h2 := hm m (by simp [Op.operands])
    simp only [aeff]
    rw [h1, h1', h1'']
    split
    · rename_i id _ _ _ hx _ _; rw [(h2 _ hx id (by simp [TV.refs, T1.refs, Cell.refs])).2]
    · rfl
  | nilCheck x =>
    have h1 := hev x (by simp [Op.operands])
    have h2 := hm x (by simp [Op.operands])
    simp only [aeff]
    rw [h1]
    split
    · rename_i c hx; rw [isPtr_congr (h2 _ hx)]
    · rfl
  | binOp op t x y t' =>
    have h1 := hev x (by simp [Op.operands])
    have h1' := hev y (by simp [Op.operands])
    have h2 := hm x (by simp [Op.operands])
    have h2' := hm y (by simp [Op.operands])
    simp only [aeff]
    rw [h1, h1']
    split
    · rename_i hx hy; rw [abinC_congr (h2 _ hx) (h2' _ hy)]
    · rfl
  | unOp op t x => simp only [aeff]; rw [hev x (by simp [Op.operands])]
  | convert s t x => simp only [aeff]; rw [hev x (by simp [Op.operands])]
  | extract x i => simp only [aeff]; rw [hev x (by simp [Op.operands])]
  | makeFunc fn first caps =>
    cases fn with
    | func f =>
      obtain ⟨l⟩ := first
      cases l with
      | nil => simp only [aeff]; rw [evs_congr (fun x hx => hev x (by simpa [Op.operands] using hx))]
      | cons y ys => rfl
    | _ => rfl
  | makeSlice t l c => simp only [aeff]; rw [hev l (by simp [Op.operands]), hev c (by simp [Op.operands])]
  | slice t x lo hi mx =>
    cases mx with
    | some m => rfl
    | none =>
      have h1 := hev x (by simp [Op.operands])
      have h2 := hm x (by simp [Op.operands])
      have hl : ∀ d, aeff.bnd σ lo d = aeff.bnd st lo d := fun d => by
        cases lo with
        | none => rfl
        | some y => simp only [aeff.bnd]; rw [hev y (by simp [Op.operands])]
      have hh : ∀ d, aeff.bnd σ hi d = aeff.bnd st hi d := fun d => by
        cases hi with
        | none => rfl
        | some y => simp only [aeff.bnd]; rw [hev y (by simp [Op.operands])]
      simp only [aeff, hl, hh]
      rw [h1]
      split
      · rfl
      · rfl
      · rename_i id _ _ hx
        rw [(h2 _ hx id (by simp [TV.refs, T1.refs, Cell.refs])).1]
        have e := hl 0
        cases st.own id with
        | none => rfl
        | some oe =>
          dsimp only
          generalize aeff.bnd st hi _ = q
          generalize List.lookup _ Γ = r
          cases lo with
          | none => cases q <;> cases r <;> rfl
          | some y => cases q <;> cases r <;> simp only [e]
      · rename_i id _ _ _ hx
        rw [(h2 _ hx id (by simp [TV.refs, T1.refs, Cell.refs])).1]
      · rfl
  | fieldAddr t x i =>
    have h1 := hev x (by simp [Op.operands])
    have h2 := hm x (by simp [Op.operands])
    simp only [aeff]
    rw [h1]
    split
    · rename_i c _ hx
      have h3 := h2 _ hx
      cases c with
      | ep id j off => simp only [(h3 id (by simp [TV.refs, T1.refs, Cell.refs])).1]
      | _ => rfl
    · rfl
  | field t x i => simp only [aeff]; rw [hev x (by simp [Op.operands])]
  | indexAddr t x i =>
    have h1 := hev x (by simp [Op.operands])
    have h1' := hev i (by simp [Op.operands])
    have h2 := hm x (by simp [Op.operands])
    simp only [aeff]
    rw [h1, h1']
    split
    · rfl
    · rename_i id _ _ _ _ hx _
      have h3 := (h2 _ hx id (by simp [TV.refs, T1.refs, Cell.refs])).1
      simp only [ownEt, h3]
    · rename_i id _ _ _ _ _ hx _
      have h3 := (h2 _ hx id (by simp [TV.refs, T1.refs, Cell.refs])).1
      simp only [ownEt, h3]
    · rfl
    · rename_i id _ _ _ hx _
      have h3 := (h2 _ hx id (by simp [TV.refs, T1.refs, Cell.refs])).1
      simp only [h3]
    · rfl
  | index t x i => simp only [aeff]; rw [hev x (by simp [Op.operands]), hev i (by simp [Op.operands])]
  | call c =>
    obtain ⟨cal, ⟨al⟩, ⟨tl⟩⟩ := c
    cases cal with
    | builtin b =>
      have h0 : ∀ x ∈ al, x ∈ (Op.call ⟨.builtin b, ⟨al⟩, ⟨tl⟩⟩).operands.toList := fun x hx => by simp [Op.operands, Call.operands, hx]
      have h1 : σ.evs al = st.evs al := evs_congr fun x hx => hev x (h0 x hx)
      have h2 : ∀ {vs : List TV}, st.evs al = some vs → ∀ v ∈ vs, AgV σ st v := fun hvs => evs_ag (fun x hx => hm x (h0 x hx)) hvs
      simp only [aeff]
      rw [h1]
      split
      · rename_i hvs
        have h3 := h2 hvs _ (List.mem_singleton.2 rfl)
        split
        · rfl
        · rw [lenOf_congr h3]
        · rfl
      · rfl
      · rfl
      · rename_i hvs
        rw [elems_congr (h2 hvs _ (by simp))]
        split
        · split
          · rw [aappend_congr (h2 hvs _ (by simp))]
          · rfl
        · rfl
      · rfl
    | _ => rfl
  | _ => rfl
end
end Go.Eng
