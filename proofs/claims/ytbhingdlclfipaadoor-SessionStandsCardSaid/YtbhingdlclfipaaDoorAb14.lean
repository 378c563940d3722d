/- An abstract calculus over pure data, part 14: a region whose order is drawn does what it does in order. -/
import Derived.Test.YtbhingdlclfipaaDoorAb13
namespace Go.Proofs.YtbhingdlclfipaaDoor.Ab
open Go Go.RowKit
set_option linter.unusedVariables false
set_option linter.unusedSimpArgs false

section
variable {P : Program} {ops : Array Oper} {rs : List R} {M M0 : Gh} {N : Nms} {S : St} {own : Nat → Option Ow} {w : World} {n base : Nat} {a : Act} {T : Nat → St} {L : Nat → Nat}

theorem rstep_eff {sp : Sp} {lim : Option Nat} {p : Prop} {r : R} {S S' : St} {nm : Nat} (hr : rstep sp lim S nm r = some (p, S')) :
    ∃ e, S'.bx = (S.eff nm e).bx ∧ S'.tk = (S.eff nm e).tk ∧ (lim.isNone || effInert e) = true ∧ ∀ b c, e.wr = some (b, c) → (∃ c0, cutB lim S.bx b = some c0) ∧ isSt r.op = true ∧ touch S.env r.op = some b := by
  unfold rstep at hr
  split at hr
  · rename_i G p' res e hG hi
    split at hr
    · rename_i hc
      simp only [Option.some.injEq, Prod.mk.injEq] at hr
      obtain ⟨_, rfl⟩ := hr
      simp only [Bool.and_eq_true] at hc
      exact ⟨e, rfl, rfl, hc.1.2, fun b c hw => istep_wr hi b c hw⟩
    · cases hr
  · cases hr
theorem istep_st {sp : Sp} {bx : Nat → Option Box} {tk : Nat → Option (TypeId × Nat)} {env : Nat → Option A} {nm b : Nat} {i : I} {x : Prop × Option A × Eff} (h : istep sp bx tk env nm i = some x) (hs : isSt i = true) (ht : touch env i = some b) : ∃ c, bx b = some c := by
  cases i <;> simp [isSt] at hs
  simp only [istep] at h
  simp only [touch] at ht
  split at h
  · rename_i hx _
    rw [hx] at ht
    simp only [Option.some.injEq] at ht
    subst ht
    split at h
    · rename_i hb; exact ⟨_, hb⟩
    · cases h
  · rename_i hx _
    rw [hx] at ht
    simp only [Option.some.injEq] at ht
    subst ht
    split at h
    · rename_i hb; exact ⟨_, hb⟩
    · cases h
  · cases h
theorem rstep_st {sp : Sp} {lim : Option Nat} {p : Prop} {r : R} {S S' : St} {nm b : Nat} (hr : rstep sp lim S nm r = some (p, S')) (hs : isSt r.op = true) (ht : touch S.env r.op = some b) : ∃ c, cutB lim S.bx b = some c := by
  unfold rstep at hr
  split at hr
  · rename_i hi; exact istep_st hi hs ht
  · cases hr
theorem rstep_pure {sp : Sp} {lim : Option Nat} {p : Prop} {r : R} {S S' : St} {nm : Nat} (hpu : r.op.isPure = true) (hr : rstep sp lim S nm r = some (p, S')) : rstep sp (some 0) S nm r = some (p, S') ∧ S'.bx = S.bx ∧ S'.tk = S.tk := by
  unfold rstep at hr ⊢
  rw [istep_pure (bx' := cutB lim S.bx) (tk' := cutB lim S.tk) hpu]
  split at hr
  · rename_i G p' res e hG hi
    split at hr
    · rename_i hc
      simp only [Option.some.injEq, Prod.mk.injEq] at hr
      obtain ⟨rfl, rfl⟩ := hr
      have := istep_nil hpu hi
      subst this
      simp only [Bool.and_eq_true] at hc
      refine ⟨?_, rfl, rfl⟩
      rw [if_pos]
      simp only [Bool.and_eq_true]
      exact ⟨⟨hc.1.1, rfl⟩, hc.2⟩
    · cases hr
  · cases hr
theorem eff_inert_bx {e : Eff} {S : St} {nm k : Nat} (h : effInert e = true) (hk : k ≠ nm) : ((∀ c, e.wr ≠ some (k, c)) → (S.eff nm e).bx k = S.bx k) ∧ (S.eff nm e).tk k = S.tk k := by
  obtain ⟨nb, kill, nt, wr⟩ := e
  simp only [effInert, Option.isNone_iff_eq_none] at h
  subst h
  refine ⟨fun hw => ?_, by cases nt <;> simp [St.eff, upd_ne _ _ _ hk]⟩
  cases wr with
  | none => cases nb <;> simp [St.eff, upd_ne _ _ _ hk]
  | some bc =>
    obtain ⟨b, c⟩ := bc
    have hkb : k ≠ b := by rintro rfl; exact hw c rfl
    cases nb <;> simp [St.eff, upd_ne _ _ _ hk, upd_ne _ _ _ hkb]
theorem eff_none {e : Eff} {S : St} {nm k : Nat} (hw : ∀ b c, e.wr = some (b, c) → ∃ c0, S.bx b = some c0) (hk : k ≠ nm) : (S.bx k = none → (S.eff nm e).bx k = none) ∧ (S.tk k = none → (S.eff nm e).tk k = none) := by
  obtain ⟨nb, kill, nt, wr⟩ := e
  refine ⟨fun h => ?_, fun h => ?_⟩
  · cases wr with
    | none => cases nb <;> simp [St.eff, upd_ne _ _ _ hk, h]
    | some bc =>
      obtain ⟨b, c⟩ := bc
      obtain ⟨c0, hb⟩ := hw b c rfl
      have hkb : k ≠ b := by rintro rfl; rw [h] at hb; cases hb
      cases nb <;> simp [St.eff, upd_ne _ _ _ hk, upd_ne _ _ _ hkb, h]
  · cases kill with
    | none => cases nt <;> simp [St.eff, upd_ne _ _ _ hk, h]
    | some t =>
      have : upd S.tk t none k = none := by by_cases hkt : k = t; (rw [hkt]; exact upd_same _ _ _); (rw [upd_ne _ _ _ hkt]; exact h)
      cases nt <;> simp [St.eff, upd_ne _ _ _ hk, this]
theorem eff_inert_nm {e : Eff} {S S2 : St} {nm : Nat} (h : effInert e = true) (hb : S.bx nm = none) (hw : ∀ b c, e.wr = some (b, c) → ∃ c0, S.bx b = some c0) (ht : S.tk nm = none) : (∀ c, (S.eff nm e).bx nm = some c → (S2.eff nm e).bx nm = some c) ∧ (∀ q, (S.eff nm e).tk nm = some q → (S2.eff nm e).tk nm = some q) := by
  obtain ⟨nb, kill, nt, wr⟩ := e
  simp only [effInert, Option.isNone_iff_eq_none] at h
  subst h
  refine ⟨fun c hc => ?_, fun q hq => ?_⟩
  · cases nb with
    | none =>
      cases wr with
      | none => simp only [St.eff] at hc; rw [hb] at hc; cases hc
      | some bc =>
        obtain ⟨b, c'⟩ := bc
        obtain ⟨c0, h0⟩ := hw b c' rfl
        have : nm ≠ b := by rintro rfl; rw [hb] at h0; cases h0
        simp only [St.eff, upd_ne _ _ _ this] at hc
        rw [hb] at hc; cases hc
    | some b => simp only [St.eff, upd_same] at hc ⊢; exact hc
  · cases nt with
    | none => simp only [St.eff] at hq; rw [ht] at hq; cases hq
    | some b => simp only [St.eff, upd_same] at hq ⊢; exact hq
/-- What is written is there. -/
theorem eff_wr {e : Eff} {S S2 : St} {nm b : Nat} {c : Box} (hw : e.wr = some (b, c)) (hb : b ≠ nm) : (S.eff nm e).bx b = (S2.eff nm e).bx b := by
  obtain ⟨nb, kill, nt, wr⟩ := e
  simp only at hw
  subst hw
  cases nb <;> simp [St.eff, upd_ne _ _ _ hb, upd_same]
theorem SimO.sub {fr : Nat → Prop} {S' : St} (h : SimO M N S fr own w) (hb : ∀ n b, S'.bx n = some b → S.bx n = some b) (ht : ∀ n q, S'.tk n = some q → S.tk n = some q) : SimO M N S' fr own w :=
  ⟨h.base, h.pc, h.im, h.fro, h.lt, fun n b e => h.box n b (hb n b e), fun t q e => h.tok t q (ht t q e), h.fresh, h.glob, h.nb, h.big⟩

/-- The states between the operations, in order. -/
structure Snaps (sp : Sp) (base : Nat) (rs : List R) (T : Nat → St) (L : Nat → Nat) : Prop where
  zero : L 0 = base
  step : ∀ (i : Nat) (r : R), rs[i]? = some r → ∃ q, rstep sp (if r.bar then none else some (L i)) (T i) (base + i) r = some (q, T (i + 1)) ∧ q ∧ L (i + 1) = if r.bar then base + i + 1 else L i
  crit : ∀ (i : Nat) (r : R), rs[i]? = some r → ∀ k ∈ r.cr, ∀ rk, rs[k]? = some rk → k < i → rk.bar = false → ∀ b, touch (T k).env rk.op = some b → touch (T i).env r.op = some b → False
  bx0 : ∀ n, base ≤ n → (T 0).bx n = none
  tk0 : ∀ n, base ≤ n → (T 0).tk n = none
def tcB (rs : List R) (T : Nat → St) (k : Nat) : Option Nat := match rs[k]? with | some rk => if rk.bar then none else touch (T k).env rk.op | none => none
theorem snaps {sp : Sp} {base : Nat} : ∀ (rs : List R) (j lim : Nat) (ts : List (Option Nat)) (S S' : St) (p : Prop), rrun sp base j lim ts rs S = some (p, S') → p →
    ∃ (T : Nat → St) (L : Nat → Nat), T 0 = S ∧ T rs.length = S' ∧ L 0 = lim ∧ (∀ (i : Nat) (r : R), rs[i]? = some r → ∃ q, rstep sp (if r.bar then none else some (L i)) (T i) (base + (j + i)) r = some (q, T (i + 1)) ∧ q ∧ L (i + 1) = if r.bar then base + (j + i) + 1 else L i) ∧
      ∀ (i : Nat) (r : R), rs[i]? = some r → apart (ts ++ (List.range i).map (tcB rs T)) (touch (T i).env r.op) r.cr
  | [], j, lim, ts, S, S', p, h, hp => by
    simp only [rrun, Option.some.injEq, Prod.mk.injEq] at h
    obtain ⟨_, rfl⟩ := h
    exact ⟨fun _ => S, fun _ => lim, rfl, rfl, rfl, fun i r h => by simp at h, fun i r h => by simp at h⟩
  | r :: rs, j, lim, ts, S, S', p, h, hp => by
    simp only [rrun] at h
    split at h
    · rename_i p1 S1 h1
      split at h
      · rename_i q S2 h2
        simp only [Option.some.injEq, Prod.mk.injEq] at h
        obtain ⟨rfl, rfl⟩ := h
        obtain ⟨T, L, t0, tn, l0, hst, hcr⟩ := snaps rs (j + 1) _ _ S1 _ q h2 hp.2
        refine ⟨fun i => match i with | 0 => S | i + 1 => T i, fun i => match i with | 0 => lim | i + 1 => L i, rfl, tn, rfl, fun i x hx => ?_, fun i x hx => ?_⟩
        · cases i with
          | zero =>
            simp only [List.getElem?_cons_zero, Option.some.injEq] at hx; subst hx
            exact ⟨p1, by show rstep sp (if r.bar then none else some lim) S (base + j) r = some (p1, T 0); rw [t0]; exact h1, hp.1.1, l0⟩
          | succ i =>
            obtain ⟨q', h3, h4, h5⟩ := hst i x (by simpa using hx)
            have e : j + (i + 1) = j + 1 + i := by omega
            exact ⟨q', by rw [e]; exact h3, h4, by rw [e]; exact h5⟩
        · cases i with
          | zero =>
            simp only [List.getElem?_cons_zero, Option.some.injEq] at hx; subst hx
            simpa using hp.1.2
          | succ i =>
            have h3 := hcr i x (by simpa using hx)
            rw [List.range_succ_eq_map, List.map_cons, List.map_map]
            have e : (tcB (r :: rs) (fun i => match i with | 0 => S | i + 1 => T i)) ∘ Nat.succ = tcB rs T := by
              funext k
              simp [tcB, Function.comp]
            rw [e]
            simpa [tcB, List.append_assoc] using h3
      · cases h
    · cases h
theorem apart_mem {ts : List (Option Nat)} {t : Option Nat} : ∀ {cr : List Nat}, apart ts t cr → ∀ k ∈ cr, ∀ b, ts.getD k none = some b → t = some b → False
  | [], _, k, hk, _, _, _ => by cases hk
  | x :: r, h, k, hk, b, h1, h2 => by
    rcases List.mem_cons.1 hk with rfl | hk
    · have := h.1
      rw [h1, h2] at this
      exact this rfl
    · exact apart_mem h.2 k hk b h1 h2

def barOf (rs : List R) (k : Nat) : Bool := match rs[k]? with | some r => r.bar | none => false
def bl (rs : List R) (l : Nat → Bool) : Nat := lastL (fun k => l k && barOf rs k) rs.length
def lw (rs : List R) (l : Nat → Bool) (s : Nat) : Nat := lastL (fun k => l k && (dstOf rs k == some s)) rs.length
/-- The operation k writes the variable n. -/
def Wr (rs : List R) (T : Nat → St) (k n : Nat) : Bool := match rs[k]? with | some r => isSt r.op && touch (T k).env r.op == some n | none => false
def SX (T : Nat → St) (base : Nat) (rs : List R) (l : Nat → Bool) : St :=
  { env := fun _ => none, va := fun _ => True, bx := sx (fun i => (T i).bx) base (bl rs l) (lwb (barOf rs) (Wr rs T) rs.length l) l, tk := sx (fun i => (T i).tk) base (bl rs l) (fun _ => bl rs l) l, nx := 0 }

variable {sp : Sp} (hS : Snaps sp base rs T L)
include hS
theorem Snaps.bx_group : ∀ k, barOf rs k = false → k < rs.length → ∀ n, n ≠ base + k → (Wr rs T k n = false → (T (k + 1)).bx n = (T k).bx n) ∧ (T (k + 1)).tk n = (T k).tk n := by
  intro k hb hk n hn
  obtain ⟨q, h1, _, _⟩ := hS.step k _ (List.getElem?_eq_getElem hk)
  have hbar : rs[k].bar = false := by simpa [barOf, List.getElem?_eq_getElem hk] using hb
  obtain ⟨e, h2, h3, h4, h5⟩ := rstep_eff h1
  rw [hbar] at h4
  simp only [Bool.false_eq_true, if_false, Option.isNone_some, Bool.false_or] at h4
  rw [h2, h3]
  obtain ⟨h6, h7⟩ := eff_inert_bx (S := T k) h4 hn
  refine ⟨fun hW => h6 fun c hc => ?_, h7⟩
  obtain ⟨_, q1, q2⟩ := h5 n c hc
  simp [Wr, List.getElem?_eq_getElem hk, q1, q2] at hW
theorem Snaps.none : ∀ i, i ≤ rs.length → ∀ n, base + i ≤ n → (T i).bx n = none ∧ (T i).tk n = none := by
  intro i
  induction i with
  | zero => intro _ n hn; exact ⟨hS.bx0 n hn, hS.tk0 n hn⟩
  | succ i ih =>
    intro hi n hn
    obtain ⟨q, h1, _, _⟩ := hS.step i _ (List.getElem?_eq_getElem (show i < rs.length by omega))
    obtain ⟨e, h2, h3, _, h5⟩ := rstep_eff h1
    obtain ⟨h6, h7⟩ := eff_none (k := n) (fun b c hc => let ⟨⟨c0, h⟩, _⟩ := h5 b c hc; ⟨c0, cutB_le h⟩) (show n ≠ base + i by omega)
    obtain ⟨h8, h9⟩ := ih (by omega) n (by omega)
    rw [h2, h3]
    exact ⟨h6 h8, h7 h9⟩
theorem Snaps.pure_none : ∀ k, k < rs.length → pureOf rs k = true → (T (k + 1)).bx (base + k) = Option.none ∧ (T (k + 1)).tk (base + k) = Option.none := by
  intro k hk hpu
  obtain ⟨q, h1, _, _⟩ := hS.step k _ (List.getElem?_eq_getElem hk)
  have hpu' : rs[k].op.isPure = true := by simpa [pureOf, List.getElem?_eq_getElem hk] using hpu
  obtain ⟨_, h2, h3⟩ := rstep_pure hpu' h1
  rw [h2, h3]
  exact hS.none k (by omega) _ (Nat.le_refl _)
theorem Snaps.lim : ∀ i, i ≤ rs.length → ∃ q, L i = base + q ∧ q ≤ i ∧ (∀ k, q ≤ k → k < i → barOf rs k = false) ∧ (q = 0 ∨ ∃ k, q = k + 1 ∧ barOf rs k = true) := by
  intro i
  induction i with
  | zero => intro _; exact ⟨0, hS.zero, Nat.le_refl _, fun k _ h => by omega, .inl rfl⟩
  | succ i ih =>
    intro hi
    obtain ⟨q, h1, h2, h3, h4⟩ := ih (by omega)
    obtain ⟨_, _, _, h5⟩ := hS.step i _ (List.getElem?_eq_getElem (show i < rs.length by omega))
    by_cases hb : rs[i].bar = true
    · rw [if_pos hb] at h5
      exact ⟨i + 1, h5, Nat.le_refl _, fun k hk hk' => by omega, .inr ⟨i, rfl, by simp [barOf, List.getElem?_eq_getElem (show i < rs.length by omega), hb]⟩⟩
    · rw [if_neg hb] at h5
      refine ⟨q, h5.trans h1, by omega, fun k hk hk' => ?_, h4⟩
      rcases Nat.lt_or_ge k i with h | h
      · exact h3 k hk h
      · have : k = i := by omega
        subst this
        simp [barOf, List.getElem?_eq_getElem (show k < rs.length by omega), hb]
theorem Snaps.wr_lt : ∀ k n, barOf rs k = false → Wr rs T k n = true → n < L k ∧ pureOf rs k = false := by
  intro k n hb hW
  unfold Wr at hW
  split at hW
  · rename_i r hr
    simp only [Bool.and_eq_true, beq_iff_eq] at hW
    obtain ⟨q, h1, _, _⟩ := hS.step k r hr
    have hbar : r.bar = false := by simpa [barOf, hr] using hb
    rw [hbar] at h1
    simp only [Bool.false_eq_true, if_false] at h1
    obtain ⟨c, hc⟩ := rstep_st h1 hW.1 hW.2
    refine ⟨?_, ?_⟩
    · simp only [cutB] at hc
      split at hc
      · assumption
      · cases hc
    · have := hW.1
      simp only [pureOf, hr]
      cases hop : r.op <;> simp [isSt, hop] at this
      rfl
  · cases hW
theorem Snaps.lim_le : ∀ i, i ≤ rs.length → ∀ b, b ≤ i → (∀ k, b ≤ k → k < i → barOf rs k = false) → L i ≤ base + b := by
  intro i hi b hb hno
  obtain ⟨q, h1, h2, h3, h4⟩ := hS.lim i hi
  rcases h4 with rfl | ⟨k, rfl, hk⟩
  · omega
  · rcases Nat.lt_or_ge k b with h | h
    · omega
    · rw [hno k h (by omega)] at hk; cases hk
omit hS in
theorem bl_le {l : Nat → Bool} (n : Nat) : bl rs l ≤ lwb (barOf rs) (Wr rs T) rs.length l n := by
  rcases Nat.lt_or_ge (lwb (barOf rs) (Wr rs T) rs.length l n) (bl rs l) with h | h
  · exfalso
    obtain ⟨k, hk⟩ : ∃ k, bl rs l = k + 1 := ⟨bl rs l - 1, by omega⟩
    obtain ⟨h1, h2⟩ := lastL_some _ _ k hk
    simp only [Bool.and_eq_true] at h1
    have := lastL_none _ _ k (show lwb (barOf rs) (Wr rs T) rs.length l n ≤ k by omega) h2
    simp [h1.1, h1.2] at this
  · exact h
theorem Snaps.env_still (s : Nat) : ∀ v u, u ≤ v → v ≤ rs.length → (∀ k, u ≤ k → k < v → dstOf rs k ≠ some s) → (T v).env s = (T u).env s ∧ (T v).va s = (T u).va s := by
  intro v
  induction v with
  | zero => intro u h _ _; have : u = 0 := by omega
            rw [this]; exact ⟨rfl, rfl⟩
  | succ v ih =>
    intro u h hv hno
    rcases Nat.lt_or_ge u (v + 1) with hlt | hge
    · obtain ⟨_, h1, _, _⟩ := hS.step v _ (List.getElem?_eq_getElem (show v < rs.length by omega))
      obtain ⟨hE, hV, _⟩ := rstep_env h1
      have hd : rs[v].dst ≠ some s := by
        have := hno v (by omega) (Nat.lt_succ_self v)
        simpa [dstOf, List.getElem?_eq_getElem (show v < rs.length by omega)] using this
      rw [hE s hd, hV s hd]
      exact ih u (by omega) (by omega) fun k hk hk' => hno k hk (by omega)
    · have : u = v + 1 := by omega
      rw [this]; exact ⟨rfl, rfl⟩
end
end Go.Proofs.YtbhingdlclfipaaDoor.Ab
