/-
Ranges over maps, in the form of the rules whose state is computed; the loop whose order is open.
-/
import Derived.Test.YtnnadlpfbfajdaaGreatDoorEng7
namespace Go.Eng
open Go
set_option linter.unusedVariables false
set_option linter.unusedSimpArgs false
set_option linter.unusedSectionVars false

section
variable {P : Program} {Γ : Types} {A nt : Nat} {ops : Array Oper} {base k : Nat} {o : Oper} {ol : List Oper} {K : St → Prop} {st : St}

theorem upd_upd {α : Type} (m : Nat → α) (k : Nat) (v u : α) : upd (upd m k v) k u = upd m k u := by
  funext x; unfold upd; split <;> rfl
theorem app_box (dst : Option Tmp) (v : TV) (id : Nat) (x y : Option (List Cell)) (us : List Nat) : { st.app dst ⟨v, [], [(id, x)], us⟩ with box := upd (st.app dst ⟨v, [], [(id, x)], us⟩).box id y } = st.app dst ⟨v, [], [(id, y)], us⟩ := by
  cases dst <;> simp [St.app, St.mem, St.put, updL, upd_upd]
theorem app_box_at (dst : Option Tmp) (v : TV) (id : Nat) (x : Option (List Cell)) (us : List Nat) : (st.app dst ⟨v, [], [(id, x)], us⟩).box id = x := by
  cases dst <;> simp [St.app, St.mem, St.put, updL, upd_same]

section
variable {κ β : Type} [DecidableEq κ] {fk : κ → D} {fv : β → List D}
/-- a write: the entry comes where its key has its place -/
theorem aPut [hΓ : TOk P Γ] [KOrd κ] (id : Nat) (kk : KK) (agg : Bool) {t : TypeId} {m x y : Operand} {l : List (κ × β)} {key : κ} {v : β} (fk : κ → D) [KeyC fk] (fv : β → List D) (ho : o.op = .mapUpdate t m x y)
    (hn : Aops P nt ops base (k + 1) ol K (st.app o.dst ⟨.undef, [], [(id, some [.mapc kk agg ((aput l key v).map (encM fk fv))])], []⟩))
    (hc : updC Γ t st m x y = some (id, kk, agg, l.map (encM fk fv), fk key, fv v) := by kernel_rfl) (h : (dstOk nt o.dst && guardT ops o st) = true := by kernel_rfl) : Aops P nt ops base k (o :: ol) K st := by
  have he := x_put (Γ := Γ) (st := st) (base := base + 1000 * k) id kk agg (l := l) (k := key) (v := v) fk fv hc
  rw [← ho] at he
  refine aX he ?_ h
  refine aops_perm (es' := (aput l key v).map (encM fk fv)) ((aput_perm l key v).map _) ?_ (app_box_at _ _ _ _ _)
  rw [app_box]
  exact hn
/-- what is asked of a map that is ranged over, or measured -/
def mapX (Γ : Types) (t : TypeId) (st : St) (x : Operand) : Option (Nat × KK × Bool × List (List D × List D)) := match Γ.lookup t, st.ev x with
  | some ⟨_, _, _, _, .map _ _⟩, some (.v (.one (.mapp id))) => match st.box id with
    | some [.mapc ka va es] => some (id, ka, va, es)
    | _ => none
  | _, _ => none
theorem mapX_spec {t : TypeId} {x : Operand} {id : Nat} {ka : KK} {va : Bool} {es : List (List D × List D)} (h : mapX Γ t st x = some (id, ka, va, es)) :
    (∃ kt et, (Γ.lookup t).map (·.kind) = some (.map kt et)) ∧ st.ev x = some (.v (.one (.mapp id))) ∧ st.box id = some [.mapc ka va es] := by
  unfold mapX at h
  split at h
  case h_2 => cases h
  rename_i a1 a2 a3 a4 kt et id' ht hx
  split at h
  case h_2 => cases h
  rename_i ka' va' es' hb
  injection h with h; injection h with h1 h; injection h with h2 h; injection h with h3 h4
  subst h1 h2 h3 h4
  exact ⟨⟨kt, et, by rw [ht]; rfl⟩, hx, hb⟩
theorem aLenM [hΓ : TOk P Γ] (id : Nat) {t : TypeId} {x : Operand} {ka : KK} {va : Bool} {α : Type} (enc : α → List D × List D) (l : List α) (ho : o.op = .call ⟨.builtin .len, #[x], #[t]⟩)
    (hn : Aops P nt ops base (k + 1) ol K (st.app o.dst ⟨.i l.length, [], [], []⟩))
    (hc : mapX Γ t st x = some (id, ka, va, l.map enc) := by kernel_rfl) (h : (dstOk nt o.dst && guardT ops o st) = true := by kernel_rfl) : Aops P nt ops base k (o :: ol) K st := by
  obtain ⟨⟨kt, et, h1⟩, h2, h3⟩ := mapX_spec hc
  have hd := does_lenM (base := base + 1000 * k) hΓ.ok ho h1 h2 h3
  rw [List.length_map] at hd
  exact aS hd hn h
theorem mdel_map {fk : κ → D} [KeyC fk] {fv : β → List D} (key : κ) (l : List (κ × β)) : mdel (l.map (encM fk fv)) [fk key] = (adel l key).map (encM fk fv) := by
  unfold mdel adel
  rw [List.filter_map]
  congr 1
  refine List.filter_congr fun e _ => ?_
  show (!keq [fk key] [fk e.1]) = _
  rw [keq_one]
def delC (Γ : Types) (t : TypeId) (st : St) (m y : Operand) : Option (Nat × KK × Bool × List (List D × List D) × D) := match Γ.lookup t, st.ev m, st.ev y with
  | some ⟨_, _, _, _, .map kt _⟩, some (.v (.one (.mapp id))), some (.v (.one (.d k))) => match st.box id, Γ.lookup kt with
    | some [.mapc kk va es], some tk => if kindK tk.kind = some kk ∧ kk.fits [k] = true then some (id, kk, va, es, k) else none
    | _, _ => none
  | _, _, _ => none
theorem aDel [hΓ : TOk P Γ] (id : Nat) (kk : KK) (agg : Bool) {t t' : TypeId} {m y : Operand} {l : List (κ × β)} {key : κ} (fk : κ → D) [KeyC fk] (fv : β → List D) (ho : o.op = .call ⟨.builtin .delete, #[m, y], #[t, t']⟩)
    (hn : Aops P nt ops base (k + 1) ol K (st.app o.dst ⟨.tup [], [], [(id, some [.mapc kk agg ((adel l key).map (encM fk fv))])], []⟩))
    (hc : delC Γ t st m y = some (id, kk, agg, l.map (encM fk fv), fk key) := by kernel_rfl) (h : (dstOk nt o.dst && guardT ops o st) = true := by kernel_rfl) : Aops P nt ops base k (o :: ol) K st := by
  unfold delC at hc
  split at hc
  case h_2 => cases hc
  rename_i a1 a2 a3 a4 kt et id' k' ht hm hy
  split at hc
  case h_2 => cases hc
  rename_i kk' va' es' tk hb htk
  split at hc
  case isFalse => cases hc
  rename_i hcc
  injection hc with h1; injection h1 with h1 h2; injection h2 with h2 h3; injection h3 with h3 h4; injection h4 with h4 h5
  subst h1 h2 h3 h5
  have hd := does_delM (base := base + 1000 * k) hΓ.ok ho (by rw [ht]; rfl) htk hm hy hb hcc.1 hcc.2
  rw [h4, mdel_map] at hd
  exact aS hd hn h
end

/-! ### Range, next, entry -/
theorem aRange [hΓ : TOk P Γ] (id : Nat) {t : TypeId} {x : Operand} {ka : KK} {va : Bool} {α : Type} (enc : α → List D × List D) (l : List α) (ho : o.op = .range t x)
    (hn : ∀ (me : List (Nat × List D × List D)) (cl : Nat), (l.map enc).Perm (me.map (·.2)) → Aops P nt ops base (k + 1) ol K (St.app { st with box := upd st.box id (some [.mapg ka va me cl]) } o.dst ⟨.c (.box (base + 1000 * k) 0), [], [(base + 1000 * k, some [.iterc id me cl (l.map enc) none])], []⟩))
    (hc : mapX Γ t st x = some (id, ka, va, l.map enc) := by kernel_rfl) (h : (dstOk nt o.dst && guardT ops o st) = true := by kernel_rfl) : Aops P nt ops base k (o :: ol) K st := by
  obtain ⟨⟨kt, et, h1⟩, h2, h3⟩ := mapX_spec hc
  rw [Bool.and_eq_true] at h
  refine aops_open id (fun me cl hp => ?_) h3
  have hg := guardT_spec h.2
  have hd := does_rangeM (P := P) (Γ := Γ) (base := base + 1000 * k) (st := { st with box := upd st.box id (some [.mapg ka va me cl]) }) hΓ.ok ho h1 h2 (upd_same _ _ _) hp
  exact aops_do hg (dstOk_spec h.1) (does_use hd) (hn me cl hp)
def iterX (st : St) (x : Operand) : Option (Nat × Nat × List (Nat × List D × List D) × Nat × List (List D × List D) × Option (Nat × List D × List D) × KK × Bool × List (Nat × List D × List D) × Nat) := match st.ev x with
  | some (.v (.one (.box idI 0))) => match st.box idI with
    | some [.iterc idM me cl rest cur] => match st.box idM with
      | some [.mapg ka va me' cl'] => some (idI, idM, me, cl, rest, cur, ka, va, me', cl')
      | _ => none
    | _ => none
  | _ => none
theorem iterX_spec {x : Operand} {idI idM : Nat} {me : List (Nat × List D × List D)} {cl : Nat} {rest : List (List D × List D)} {cur : Option (Nat × List D × List D)} {ka : KK} {va : Bool} (h : iterX st x = some (idI, idM, me, cl, rest, cur, ka, va, me, cl)) :
    st.ev x = some (.v (.one (.box idI 0))) ∧ st.box idI = some [.iterc idM me cl rest cur] ∧ st.box idM = some [.mapg ka va me cl] := by
  unfold iterX at h
  split at h
  case h_2 => cases h
  rename_i i hx
  split at h
  case h_2 => cases h
  rename_i a1 a2 a3 a4 a5 hb
  split at h
  case h_2 => cases h
  rename_i b1 b2 b3 b4 hm
  injection h with h; injection h with h1 h; injection h with h2 h; injection h with h3 h; injection h with h4 h; injection h with h5 h; injection h with h6 h; injection h with h7 h; injection h with h8 h; injection h with h9 h10
  subst h1 h2 h3 h4 h5 h6 h7 h8 h9 h10
  exact ⟨hx, hb, hm⟩
theorem aNext (idI idM : Nat) {x : Operand} {ka : KK} {va : Bool} {me : List (Nat × List D × List D)} {cl : Nat} {cur : Option (Nat × List D × List D)} {α : Type} (enc : α → List D × List D) (ls : List α) (ho : o.op = .next x false)
    (hend : ls = [] → Aops P nt ops base (k + 1) ol K (st.app o.dst ⟨.tup [.one (.d (.bool false))], [], [], []⟩))
    (hstep : ∀ (y : α) (ls' : List α) (b : Nat), ls.Perm (y :: ls') → Aops P nt ops base (k + 1) ol K (st.app o.dst ⟨.tup [.one (.d (.bool true)), valT ka.isAgg (enc y).1, valT va (enc y).2], [], [(idI, some [.iterc idM me cl (ls'.map enc) (some (b, enc y))])], []⟩))
    (hc : iterX st x = some (idI, idM, me, cl, ls.map enc, cur, ka, va, me, cl) := by kernel_rfl) (h : (dstOk nt o.dst && guardT ops o st) = true := by kernel_rfl) : Aops P nt ops base k (o :: ol) K st := by
  obtain ⟨h1, h2, h3⟩ := iterX_spec hc
  rw [Bool.and_eq_true] at h
  exact aops_next (guardT_spec h.2) (dstOk_spec h.1) ho h1 h2 h3 (fun e => hend e) fun y ls' b hp => hstep y ls' b hp
theorem aEntry (idI idM : Nat) {x : Operand} {ka : KK} {va : Bool} {me : List (Nat × List D × List D)} {cl b : Nat} {rest : List (List D × List D)} {α : Type} (enc : α → List D × List D) (y : α) (ho : o.op = .entry x)
    (hn : Aops P nt ops base (k + 1) ol K (st.app o.dst ⟨.tup [valT ka.isAgg (enc y).1, valT va (enc y).2], [], [], []⟩))
    (hc : iterX st x = some (idI, idM, me, cl, rest, some (b, enc y), ka, va, me, cl) := by kernel_rfl) (h : (dstOk nt o.dst && guardT ops o st) = true := by kernel_rfl) : Aops P nt ops base k (o :: ol) K st := by
  obtain ⟨h1, h2, h3⟩ := iterX_spec hc
  exact aS (does_entry ho h1 h2 h3) hn h

/-! ### The loop -/
variable {α σ ρ : Type} {Q : AEx → St → Prop}
def OutR (A : Nat) (k : ρ → AEx) (f : Option α → σ → Option (σ ⊕ ρ)) (H : List α → σ → St) (S : ρ → St) (l : List α) (s : σ) (ae : AEx) (st : St) : Prop :=
  (l = [] ∧ ∃ x, f none s = some x ∧ Out A (kk k) (SS (H []) S) x ae st) ∨ ∃ e l' x, l.Perm (e :: l') ∧ f (some e) s = some x ∧ Out A (kk k) (SS (H l') S) x ae st
theorem outE {k : ρ → AEx} {f : Option α → σ → Option (σ ⊕ ρ)} {H : List α → σ → St} {S : ρ → St} {l : List α} {s : σ} {ae : AEx} {x : σ ⊕ ρ} (h0 : l = []) (h1 : f none s = some x) (h : Out A (kk k) (SS (H []) S) x ae st) : OutR A k f H S l s ae st := .inl ⟨h0, x, h1, h⟩
theorem outP {k : ρ → AEx} {f : Option α → σ → Option (σ ⊕ ρ)} {H : List α → σ → St} {S : ρ → St} {l : List α} {s : σ} {ae : AEx} {x : σ ⊕ ρ} {e : α} {l' : List α} (h0 : l.Perm (e :: l')) (h1 : f (some e) s = some x) (h : Out A (kk k) (SS (H l') S) x ae st) : OutR A k f H S l s ae st := .inr ⟨e, l', x, h0, h1, h⟩
/-- which entry came last is forgotten -/
theorem outCur {τ : Type} {k : τ → AEx} {S : τ → St} {r : τ} {ae : AEx} (id : Nat) {idM : Nat} {me : List (Nat × List D × List D)} {cl : Nat} {rest : List (List D × List D)} {cur : Option (Nat × List D × List D)}
    (h : Out A k S r ae { st with box := upd st.box id (some [.iterc idM me cl rest none]) }) (hb : st.box id = some [.iterc idM me cl rest cur] := by kernel_rfl) : Out A k S r ae st := by
  refine ⟨h.1, fun B nt C a w hA hi => h.2 B nt C a w hA ?_⟩
  refine inv_box hi hb (box_like (hi.box id _ hb) rfl rfl fun v ⟨b, seen, h1, h2, h3, h4⟩ => ⟨b, seen, h1, h2, h3, fun e he => by cases he⟩) fun c hc r hr => ?_
  rw [List.mem_singleton] at hc
  subst hc
  exact fun hn => hi.res.cell r hn id _ _ hb (List.mem_singleton.2 rfl) hr
theorem awp_rng {f : Option α → σ → Option (σ ⊕ ρ)} (H : List α → σ → St) (k : ρ → AEx) (S : ρ → St) {c : Code} {l : List α} {s : σ} (hk : ∀ r, k r ≠ .normal) (hA : ∀ o, List.Perm o l → ∃ r, rngO f o s = some r)
    (round : ∀ l s, (l = [] → ∃ x, f none s = some x) → (∀ e l', List.Perm l (e :: l') → ∃ x, f (some e) s = some x) → Awp P A nt c (OutR A k f H S l s) (H l s)) :
    Awp P A nt (.loop c) (fun ae st => ∃ o r, List.Perm o l ∧ rngO f o s = some r ∧ Out A k S r ae st) (H l s) := by
  intro B C a w hanc hi b kk0 cs
  have key : ∀ (n : Nat) (l : List α) (s : σ) (st : St) (C : Nat → Option Nat) (a : Act) (w : World), l.length = n → (∀ o, List.Perm o l → ∃ r, rngO f o s = some r) → To A st (H l s) → Inv B (From st.next) nt C st a w →
      ∃ e a' w', Post B nt (fun ae st => ∃ o r, List.Perm o l ∧ rngO f o s = some r ∧ Out A k S r ae st) e a' w' ∧ Arrives P (lone (b.at a (.code c :: .inLoop c :: kk0)) cs w) b kk0 cs e a' w' := by
    intro n
    induction n using Nat.strongRecOn with
    | _ n ih =>
    intro l s st C a w hn hA hto hi
    have hE : l = [] → ∃ x, f none s = some x := fun h => by
      subst h
      obtain ⟨r, hr⟩ := hA [] (List.Perm.refl _)
      obtain ⟨x, hx, _⟩ := bind_some hr
      exact ⟨x, hx⟩
    have hP : ∀ e l', List.Perm l (e :: l') → ∃ x, f (some e) s = some x := fun e l' h => by
      obtain ⟨r, hr⟩ := hA (e :: l') h.symm
      obtain ⟨x, hx, _⟩ := bind_some hr
      exact ⟨x, hx⟩
    obtain ⟨e, a1, w1, ⟨ae, st1, C1, rfl, hq, hi1⟩, harr⟩ := awp_to hto (round l s hE hP) B C a w hanc hi b (.inLoop c :: kk0) cs
    have last : ∀ (r : ρ), ae = k r → ∃ e a' w', Post B nt (fun ae' st' => ae' = ae ∧ st' = st1) e a' w' ∧ Arrives P (lone (b.at a (.code c :: .inLoop c :: kk0)) cs w) b kk0 cs e a' w' := by
      intro r hr
      cases ae with
      | normal => exact absurd hr.symm (hk r)
      | exit id => exact ⟨_, a1, w1, ⟨.exit id, st1, C1, rfl, ⟨rfl, rfl⟩, hi1⟩, .pass (x := .inLoop c) rfl (fun _ _ => .inl (by simp [AEx.to])) harr⟩
      | ret => exact ⟨_, a1, w1, ⟨.ret, st1, C1, rfl, ⟨rfl, rfl⟩, hi1⟩, .pass (x := .inLoop c) rfl (fun _ _ => .inl (by simp [AEx.to])) harr⟩
    rcases hq with ⟨rfl, x, hx, h1, h2⟩ | ⟨y, l', x, hp, hx, h1, h2⟩
    · cases x with
      | inl s' =>
        obtain ⟨r, hr⟩ := hA [] (List.Perm.refl _)
        simp [rngO, hx] at hr
      | inr r =>
        obtain ⟨e, a', w', ⟨ae', st', C', he, ⟨e1, e2⟩, hi'⟩, har⟩ := last r h1
        subst e1 e2
        exact ⟨e, a', w', ⟨ae', st', C', he, ⟨[], r, List.Perm.refl _, by simp [rngO, hx], h1, h2⟩, hi'⟩, har⟩
    · cases x with
      | inl s' =>
        have h1 : ae = .normal := h1
        subst h1
        have hA' : ∀ o, List.Perm o l' → ∃ r, rngO f o s' = some r := fun o ho => by
          obtain ⟨r, hr⟩ := hA (y :: o) ((ho.cons y).trans hp.symm)
          simp only [rngO, hx, Option.bind_some] at hr
          exact ⟨r, hr⟩
        have hlen : l'.length < n := by
          have := hp.length_eq
          simp at this
          omega
        obtain ⟨e2, a2, w2, ⟨ae', st', C', he, ⟨o, r, q1, q2, q3⟩, hi'⟩, har2⟩ := ih l'.length hlen l' s' st1 C1 a1 w1 rfl hA' h2 hi1
        exact ⟨e2, a2, w2, ⟨ae', st', C', he, ⟨y :: o, r, (q1.cons y).trans hp.symm, by simp only [rngO, hx, Option.bind_some]; exact q2, q3⟩, hi'⟩, .of_steps (Steps.trans harr (.one step_inLoop)) har2⟩
      | inr r =>
        obtain ⟨e, a', w', ⟨ae', st', C', he, ⟨e1, e2⟩, hi'⟩, har⟩ := last r h1
        subst e1 e2
        exact ⟨e, a', w', ⟨ae', st', C', he, ⟨y :: l', r, hp.symm, by simp only [rngO, hx, Option.bind_some], h1, h2⟩, hi'⟩, har⟩
  obtain ⟨e, a', w', hq, harr⟩ := key l.length l s (H l s) C a w rfl hA (To.refl A _) hi
  exact ⟨e, a', w', hq, .of_steps (.one step_loop) harr⟩
theorem rG {τ : Type} {f : Option α → σ → Option (σ ⊕ ρ)} {H : List α → σ → St} {k : ρ → AEx} {S : ρ → St} {c : Code} {l : List α} {s : σ} {g : ρ → Option τ} {r : τ} (hF : allPerm l (fun o => (rngO f o s).bind g) = some r) (hk : ∀ r, k r ≠ .normal)
    (round : ∀ l s, (l = [] → ∃ x, f none s = some x) → (∀ e l', List.Perm l (e :: l') → ∃ x, f (some e) s = some x) → Awp P A nt c (OutR A k f H S l s) (H l s))
    (hn : ∀ q, g q = some r → Q (k q) (S q)) : Awp P A nt (.loop c) Q (H l s) := by
  have hs := allPerm_spec hF
  refine awp_to_post (awp_mono (awp_rng H k S hk (fun o ho => ?_) round) fun ae st' ⟨o, q, ho, hq, h1, h2⟩ => ⟨S q, h2, ?_⟩)
  · obtain ⟨x, hx, _⟩ := bind_some (hs o ho)
    exact ⟨x, hx⟩
  · have := hs o ho
    rw [hq] at this
    rw [h1]
    exact hn q this
end
end Go.Eng
