/- An abstract calculus over pure data, part 12: one operation of a region, with its guard; a region in order. -/
import Derived.Test.YtbhingdlclfipaaDoorAb11
namespace Go.Proofs.YtbhingdlclfipaaDoor.Ab
open Go Go.RowKit
set_option linter.unusedVariables false
set_option linter.unusedSimpArgs false

/-- An operation of a region: where its value goes, what it is, its guard (a slot, and what is wanted of it), what it waits for, is it ordered with all others. -/
structure R where
  dst : Option Nat
  op : I
  g : Option (Nat × Bool) := none
  af : List Nat := []
  bar : Bool := true
  cr : List Nat := []

def gd (env : Nat → Option A) (va : Nat → Prop) : Option (Nat × Bool) → Option Prop
  | none => some True
  | some (s, want) => match env s with | some (.one (.v (.bool t))) => some (va s ∧ t = want) | _ => none
def effNil (e : Eff) : Bool := e.nb.isNone && e.kill.isNone && e.nt.isNone && e.wr.isNone
def effInert (e : Eff) : Bool := e.kill.isNone
def cutB {α : Type} (lim : Option Nat) (f : Nat → Option α) : Nat → Option α := match lim with | none => f | some l => fun n => if n < l then f n else none
def setE (env : Nat → Option A) (dst : Option Nat) (res : Option A) : Nat → Option A := match dst with | some d => upd env d res | none => env
def setV (va : Nat → Prop) (dst : Option Nat) (G : Prop) : Nat → Prop := match dst with | some d => upd va d G | none => va
def rstep (sp : Sp) (lim : Option Nat) (S : St) (nm : Nat) (r : R) : Option (Prop × St) :=
  match gd S.env S.va r.g, istep sp (cutB lim S.bx) (cutB lim S.tk) S.env nm r.op with
  | some G, some (p, res, e) =>
    if (r.g.isNone || effNil e) && (lim.isNone || effInert e) && (r.dst.isNone || res.isSome) then
      some (G → r.op.need S.env S.va ∧ p, { (S.eff nm e) with env := setE S.env r.dst res, va := setV S.va r.dst G })
    else none
  | _, _ => none
/-- The variable in memory that an operation looks at or writes. -/
def touch (env : Nat → Option A) : I → Option Nat
  | .load _ _ x => match x.val env with | some (.one (.ptr b _)) => some b | _ => none
  | .cvs x => match x.val env with | some (.one (.rs b _ _)) => some b | _ => none
  | .store _ x _ => match x.val env with | some (.one (.ptr b _)) => some b | _ => none
  | _ => none
def isSt : I → Bool
  | .store _ _ _ => true
  | _ => false
/-- Not the same variable as those operations. -/
def apart (ts : List (Option Nat)) (t : Option Nat) : List Nat → Prop
  | [] => True
  | k :: r => (match ts.getD k none, t with | some a, some b => a ≠ b | _, _ => True) ∧ apart ts t r
def rrun (sp : Sp) (base : Nat) : (j lim : Nat) → (ts : List (Option Nat)) → List R → St → Option (Prop × St)
  | _, _, _, [], S => some (True, S)
  | j, lim, ts, r :: rs, S =>
    match rstep sp (if r.bar then none else some lim) S (base + j) r with
    | some (p, S') => match rrun sp base (j + 1) (if r.bar then base + j + 1 else lim) (ts ++ [if r.bar then none else touch S.env r.op]) rs S' with | some (q, S'') => some ((p ∧ apart ts (touch S.env r.op) r.cr) ∧ q, S'') | none => none
    | none => none
theorem istep_touch {sp : Sp} {bx bx' : Nat → Option Box} {tk : Nat → Option (TypeId × Nat)} {env : Nat → Option A} {nm : Nat} {i : I} (h : ∀ n, touch env i = some n → bx n = bx' n) : istep sp bx tk env nm i = istep sp bx' tk env nm i := by
  cases i <;> try rfl
  case load n ag x =>
    simp only [istep, touch] at h ⊢
    split <;> (try rfl)
    rename_i b off hx
    rw [hx] at h
    rw [h b rfl]
  case store n x y =>
    simp only [istep, touch] at h ⊢
    split <;> (try rfl)
    · rename_i b off d hx hy
      rw [hx] at h
      rw [h b rfl]
    · rename_i b off d hx hy
      rw [hx] at h
      rw [h b rfl]
  case cvs x =>
    simp only [istep, touch] at h ⊢
    split <;> (try rfl)
    rename_i b off len hx
    rw [hx] at h
    rw [h b rfl]

/-- An operation that neither sees nor changes variables in memory, nor rows that may grow. -/
def I.isPure : I → Bool
  | .mv _ | .pick _ _ _ | .build _ _ | .bsl _ _ _ | .nchk _ | .bin _ _ _ | .eqb _ _ _ | .eqs _ _ _ _ | .un _ _ | .cvi _ _ | .cv0 _ | .cvb _ _ | .cvr _ | .fad _ _ | .fld _ _ _ _ | .iad _ _ _ | .iada _ _ _ _ | .idx _ _ | .sls _ _ _ | .sll _ _ _ _ | .len _ _ | .ext _ _ | .call _ _ => true
  | _ => false
theorem istep_pure {sp : Sp} {bx bx' : Nat → Option Box} {tk tk' : Nat → Option (TypeId × Nat)} {env : Nat → Option A} {nm : Nat} {i : I} (h : i.isPure = true) : istep sp bx tk env nm i = istep sp bx' tk' env nm i := by
  cases i <;> first | rfl | cases h
theorem istep_nil {sp : Sp} {bx : Nat → Option Box} {tk : Nat → Option (TypeId × Nat)} {env : Nat → Option A} {nm : Nat} {i : I} {p : Prop} {r : Option A} {e : Eff} (h : i.isPure = true) (hs : istep sp bx tk env nm i = some (p, r, e)) : e = .nil := by
  cases i <;> (try cases h) <;> simp only [istep] at hs <;> repeat' split at hs
  all_goals first
    | (cases hs; done)
    | (simp only [Option.some.injEq, Prod.mk.injEq] at hs; obtain ⟨_, _, rfl⟩ := hs; rfl)
    | (obtain ⟨_, _, hs⟩ := map_some hs; simp only [Prod.mk.injEq] at hs; obtain ⟨_, _, rfl⟩ := hs; rfl)
    | (obtain ⟨_, _, hs⟩ := bind_some hs; obtain ⟨_, _, hs⟩ := map_some hs; simp only [Prod.mk.injEq] at hs; obtain ⟨_, _, rfl⟩ := hs; rfl)

theorem istep_wr {sp : Sp} {bx : Nat → Option Box} {tk : Nat → Option (TypeId × Nat)} {env : Nat → Option A} {nm : Nat} {i : I} {p : Prop} {r : Option A} {e : Eff} (h : istep sp bx tk env nm i = some (p, r, e)) :
    ∀ b c, e.wr = some (b, c) → (∃ c0, bx b = some c0) ∧ isSt i = true ∧ touch env i = some b := by
  intro b c hw
  cases i
  case store n x y =>
    simp only [istep] at h
    split at h
    · rename_i hx _
      split at h
      · rename_i hb
        simp only [Option.some.injEq, Prod.mk.injEq] at h; obtain ⟨_, _, rfl⟩ := h
        simp only [Option.some.injEq, Prod.mk.injEq] at hw
        exact ⟨⟨_, by rw [← hw.1]; exact hb⟩, rfl, by simp only [touch, hx]; rw [hw.1]⟩
      · cases h
    · rename_i hx _
      split at h
      · rename_i hb
        simp only [Option.some.injEq, Prod.mk.injEq] at h; obtain ⟨_, _, rfl⟩ := h
        simp only [Option.some.injEq, Prod.mk.injEq] at hw
        exact ⟨⟨_, by rw [← hw.1]; exact hb⟩, rfl, by simp only [touch, hx]; rw [hw.1]⟩
      · cases h
    · cases h
  all_goals
    exfalso
    simp only [istep] at h
    repeat' split at h
    all_goals first
      | (cases h; done)
      | (simp only [Option.some.injEq, Prod.mk.injEq] at h; obtain ⟨_, _, rfl⟩ := h; simp [Eff.nil] at hw; done)
      | (obtain ⟨_, _, h⟩ := map_some h; simp only [Prod.mk.injEq] at h; obtain ⟨_, _, rfl⟩ := h; simp [Eff.nil] at hw; done)
      | (obtain ⟨_, _, h⟩ := bind_some h; obtain ⟨_, _, h⟩ := map_some h; simp only [Prod.mk.injEq] at h; obtain ⟨_, _, rfl⟩ := h; simp [Eff.nil] at hw; done)

/-- The code's operation is ours. -/
def mtR (P : Program) (ops : Array Oper) (n : Nat) (o : Oper) (r : R) : Bool :=
  o.dst == r.dst && mt P o.op r.op && (match r.dst with | some d => decide (d < n) | none => true) &&
  (match o.guard, r.g with
   | none, none => true
   | some (k, want), some (s, want') => want == want' && (match ops[k]? with | some q => q.dst == some s | none => false)
   | _, _ => false)

/-- What a slot says. -/
def SlotOK (pc : Nat → Nat → Option Value) (N : Nms) (env : Nat → Option A) (va : Nat → Prop) (tmps : Array Value) (t : Nat) : Prop :=
  ∀ a, env t = some a → (va t → ∃ v, tmps[t]? = some v ∧ RepA pc N v a) ∧ (¬ va t → tmps[t]? = some undef)
theorem SlotOK.mono {pc pc' : Nat → Nat → Option Value} {N N' : Nms} (hpc : ∀ g i u, pc g i = some u → pc' g i = some u) (hN : N.Le N') {env : Nat → Option A} {va : Nat → Prop} {tmps : Array Value} {t : Nat} (h : SlotOK pc N env va tmps t) : SlotOK pc' N' env va tmps t :=
  fun a ha => ⟨fun hv => let ⟨v, hv, hr⟩ := (h a ha).1 hv; ⟨v, hv, hr.mono hpc hN⟩, (h a ha).2⟩
def gslot : Option (Nat × Bool) → List Nat
  | some (s, _) => [s]
  | none => []
def R.looks (r : R) : List Nat := r.op.slots ++ gslot r.g
/-- Only some slots are looked at. -/
def only (l : List Nat) (env : Nat → Option A) : Nat → Option A := fun t => if t ∈ l then env t else none
theorem only_mem {l : List Nat} {env : Nat → Option A} {t : Nat} (h : t ∈ l) : only l env t = env t := by simp [only, h]
theorem only_rep {pc : Nat → Nat → Option Value} {N : Nms} {env : Nat → Option A} {va : Nat → Prop} {tmps : Array Value} {l : List Nat} (h : ∀ s ∈ l, SlotOK pc N env va tmps s) : EnvRep pc N (only l env) va tmps := by
  intro t a ha
  unfold only at ha
  split at ha
  · rename_i ht; exact h t ht a ha
  · cases ha

section
variable {P : Program} {ops : Array Oper} {o : Oper} {r : R} {M : Gh} {N : Nms} {S T T' : St} {fr : Nat → Prop} {own : Nat → Option Ow} {w : World} {nm n : Nat} {a : Act}

theorem need_only {env : Nat → Option A} {va : Nat → Prop} {l : List Nat} : ∀ {i : I}, (∀ s ∈ i.slots, s ∈ l) → i.need env va → i.need (only l env) va := by
  intro i hl hn
  cases i
  case pick c a b =>
    refine ⟨hn.1, ?_⟩
    have : c.val (only l env) = c.val env := X.val_congr fun s hs => only_mem (hl s (by simp [I.slots, hs]))
    rw [this]; exact hn.2
  all_goals exact hn
theorem wanted_spec {env : Nat → Option A} {va : Nat → Prop} {G : Prop} (hg : (match o.guard, r.g with
   | none, none => true
   | some (k, want), some (s, want') => want == want' && (match ops[k]? with | some q => q.dst == some s | none => false)
   | _, _ => false) = true) (hG : gd env va r.g = some G) (hs : ∀ s ∈ gslot r.g, SlotOK M.pc N env va a.tmps s) : Region.wanted o (yielded ops a.tmps) = true ↔ G := by
  split at hg
  · rename_i h1 h2
    rw [h2] at hG
    simp only [gd, Option.some.injEq] at hG
    subst hG
    simp [Region.wanted, h1]
  · rename_i k want s want' h1 h2
    rw [h2] at hG hs
    simp only [Bool.and_eq_true, beq_iff_eq] at hg
    obtain ⟨rfl, hg⟩ := hg
    simp only [gd] at hG
    split at hG
    · rename_i t ht
      simp only [Option.some.injEq] at hG
      subst hG
      obtain ⟨hs1, hs2⟩ := hs s (by simp [gslot]) _ ht
      split at hg
      · rename_i q hq
        simp only [beq_iff_eq] at hg
        by_cases hv : va s
        · obtain ⟨v, hv1, hv2⟩ := hs1 hv
          have := hv2.B.v_inv
          subst this
          simp [Region.wanted, h1, yielded, hq, hg, hv1, hv]
        · have := hs2 hv
          simp [Region.wanted, h1, yielded, hq, hg, this, hv, undef]
      · cases hg
    · cases hG
  · cases hg

theorem cutB_le {α : Type} {lim : Option Nat} {f : Nat → Option α} {k : Nat} {b : α} (h : cutB lim f k = some b) : f k = some b := by
  unfold cutB at h
  split at h
  · exact h
  · split at h
    · exact h
    · cases h
theorem effNil_eq {e : Eff} (h : effNil e = true) : e = .nil := by
  obtain ⟨nb, kill, nt, wr⟩ := e
  simp only [effNil, Bool.and_eq_true, Option.isNone_iff_eq_none] at h
  obtain ⟨⟨⟨h1, h2⟩, h3⟩, h4⟩ := h
  subst h1; subst h2; subst h3; subst h4
  rfl
theorem put_other {dst : Option Nat} {v : Value} {t : Nat} (h : dst ≠ some t) : (a.put dst v).tmps[t]? = a.tmps[t]? := by
  cases dst with
  | none => rfl
  | some d =>
    have : d ≠ t := fun e => h (by rw [e])
    simp [Act.put, Array.getElem?_setIfInBounds, this]
theorem put_same {d : Nat} {v : Value} (h : d < a.tmps.size) : (a.put (some d) v).tmps[d]? = some v := by
  simp [Act.put, h]
theorem put_size {dst : Option Nat} {v : Value} : (a.put dst v).tmps.size = a.tmps.size := by
  cases dst <;> simp [Act.put]
theorem put_defers {dst : Option Nat} {v : Value} : (a.put dst v).defers = a.defers := by
  cases dst <;> simp [Act.put]

/-- What one operation of a region does. -/
theorem op_sound {sp : Sp} (hsp : SpOK P M.gl sp) {lim : Option Nat} {p : Prop} (hm : mtR P ops n o r = true) (hn : n ≤ a.tmps.size) (h : SimO M N S fr own w) (hnm : fr nm) (hbx : ∀ k b, touch T.env r.op = some k → cutB lim T.bx k = some b → S.bx k = some b) (htk : ∀ k q, cutB lim T.tk k = some q → S.tk k = some q)
    (hs : ∀ s ∈ r.looks, SlotOK M.pc N T.env T.va a.tmps s) (hr : rstep sp lim T nm r = some (p, T')) (hp : p) {K : Act → World → Prop} {Q : Exit → Act → World → Prop}
    (k : ∀ a' w' M' N' own' e, M.Le M' → N.Le N' → SimO M' N' (S.eff nm e) (fun n => fr n ∧ n ≠ nm) own' w' → T'.bx = (T.eff nm e).bx → T'.tk = (T.eff nm e).tk → (lim.isNone || effInert e) = true → (r.op.isPure = true → e = .nil) → (∀ b c, e.wr = some (b, c) → (∃ c0, cutB lim T.bx b = some c0) ∧ isSt r.op = true ∧ touch T.env r.op = some b) → (∀ d, r.dst = some d → SlotOK M'.pc N' T'.env T'.va a'.tmps d) →
      (∀ t, r.dst ≠ some t → a'.tmps[t]? = a.tmps[t]?) → a'.tmps.size = a.tmps.size → a'.defers = a.defers → K a' w') :
    if Region.wanted o (yielded ops a.tmps) then o.wp P a w K Q ∨ (o.asks P a w ∧ LetsOut Q) else K (a.put o.dst undef) w := by
  simp only [mtR, Bool.and_eq_true, beq_iff_eq] at hm
  obtain ⟨⟨⟨hdst, hop⟩, hlt⟩, hgd⟩ := hm
  unfold rstep at hr
  split at hr
  case h_2 => cases hr
  rename_i G p' res e hG hi
  split at hr
  case isFalse => cases hr
  rename_i hc
  simp only [Option.some.injEq, Prod.mk.injEq] at hr
  obtain ⟨rfl, rfl⟩ := hr
  simp only [Bool.and_eq_true] at hc
  obtain ⟨⟨hc1, hc2⟩, hc3⟩ := hc
  have hw := wanted_spec (M := M) (N := N) (a := a) (ops := ops) hgd hG (fun s hs' => hs s (by simp [R.looks, hs']))
  by_cases hGt : G
  · rw [if_pos (hw.2 hGt)]
    refine .inl ?_
    obtain ⟨hneed, hp'⟩ := hp hGt
    have he : EnvRep M.pc N (only r.looks T.env) T.va a.tmps := only_rep hs
    have hi' : istep sp (fun n => if touch T.env r.op = some n then cutB lim T.bx n else none) (cutB lim T.tk) (only r.looks T.env) nm r.op = some (p', res, e) := by
      rw [istep_congr (env' := T.env) fun s hs' => only_mem (by simp [R.looks, hs']), ← hi]
      exact istep_touch fun n hn => by simp only [hn, if_true]
    refine step_sound hsp (nm := nm) hop h hnm (fun n b hb => by
      split at hb
      · rename_i ht; exact hbx n b ht hb
      · cases hb) htk he hi' (need_only (fun s hs' => by simp [R.looks, hs']) hneed) hp' ?_
    intro ov w' M' N' own' h1 h2 h3 h4
    rw [hdst]
    refine k _ w' M' N' own' e h1 h2 h3 rfl rfl hc2 (fun hpu => istep_nil hpu hi) (istep_wr hi) (fun d hd b hb => ?_) (fun t ht => put_other ht) put_size put_defers
    rw [hd] at hlt hc3
    have hlt : d < n := by simpa using hlt
    have hb' : upd T.env d res d = some b := by rw [hd] at hb; exact hb
    rw [upd_same] at hb'
    subst hb'
    have hva : (setV T.va r.dst G d) = G := by rw [hd]; exact upd_same _ _ _
    cases ov with
    | none => exact h4.elim
    | some v =>
      refine ⟨fun _ => ⟨v, ?_, h4⟩, fun hv => absurd (by show setV T.va r.dst G d; rw [hva]; exact hGt) hv⟩
      rw [hd]
      exact put_same (Nat.lt_of_lt_of_le hlt hn)
  · rw [if_neg (fun hh => hGt (hw.1 hh))]
    have hnil : effNil e = true := by
      simp only [Bool.or_eq_true] at hc1
      rcases hc1 with hc1 | hc1
      · exfalso
        have : r.g = none := by simpa using hc1
        rw [this] at hG
        simp only [gd, Option.some.injEq] at hG
        exact hGt (hG ▸ trivial)
      · exact hc1
    have := effNil_eq hnil
    subst this
    rw [hdst]
    refine k _ w M N own .nil (Gh.Le.refl _) (Nms.Le.refl _) (h.later fun _ hn => hn.1) rfl rfl hc2 (fun _ => rfl) (fun b c h => by cases h) (fun d hd b hb => ?_) (fun t ht => put_other ht) put_size put_defers
    rw [hd] at hlt
    have hlt : d < n := by simpa using hlt
    have hva : (setV T.va r.dst G d) = G := by rw [hd]; exact upd_same _ _ _
    refine ⟨fun hv => absurd (by have : setV T.va r.dst G d := hv; rwa [hva] at this) hGt, fun _ => ?_⟩
    rw [hd]
    exact put_same (Nat.lt_of_lt_of_le hlt hn)

/-- What holds between pieces of code. -/
structure Holds (M : Gh) (S : St) (n : Nat) (a : Act) (w : World) : Prop where
  sim : ∃ N own, SimO M N S (fun k => S.nx ≤ k) own w ∧ EnvRep M.pc N S.env S.va a.tmps
  size : n ≤ a.tmps.size
  defers : a.defers = []

theorem env_step {pc : Nat → Nat → Option Value} {N' : Nms} {a' : Act} (he : EnvRep pc N' T.env T.va a.tmps) (h1 : ∀ d, r.dst = some d → SlotOK pc N' T'.env T'.va a'.tmps d) (h2 : ∀ t, r.dst ≠ some t → a'.tmps[t]? = a.tmps[t]?)
    (hE : ∀ t, r.dst ≠ some t → T'.env t = T.env t) (hV : ∀ t, r.dst ≠ some t → T'.va t = T.va t) : EnvRep pc N' T'.env T'.va a'.tmps := by
  intro t b hb
  by_cases ht : r.dst = some t
  · exact h1 t ht b hb
  · rw [hE t ht] at hb
    have := he t b hb
    rw [hV t ht, h2 t ht]
    exact this
theorem rstep_env {sp : Sp} {lim : Option Nat} {p : Prop} (hr : rstep sp lim T nm r = some (p, T')) : (∀ t, r.dst ≠ some t → T'.env t = T.env t) ∧ (∀ t, r.dst ≠ some t → T'.va t = T.va t) ∧ T'.nx = T.nx := by
  unfold rstep at hr
  split at hr
  · split at hr
    · simp only [Option.some.injEq, Prod.mk.injEq] at hr
      obtain ⟨_, rfl⟩ := hr
      refine ⟨fun t ht => ?_, fun t ht => ?_, rfl⟩
      · cases hd : r.dst with
        | none => simp [setE]
        | some d =>
          have : t ≠ d := fun e => ht (by rw [hd, e])
          simp [setE, upd_ne _ _ _ this]
      · cases hd : r.dst with
        | none => simp [setV]
        | some d =>
          have : t ≠ d := fun e => ht (by rw [hd, e])
          simp [setV, upd_ne _ _ _ this]
    · cases hr
  · cases hr

/-- All operations of a region are ours. -/
def mtRs (P : Program) (ops : Array Oper) (n : Nat) : List Oper → List R → Bool
  | [], [] => true
  | o :: os, r :: rs => mtR P ops n o r && mtRs P ops n os rs
  | _, _ => false
def allBar : List R → Bool
  | [] => true
  | r :: rs => r.bar && allBar rs
theorem ops_sound {sp : Sp} {gl : List (Nat × Nat × Value)} (hsp : SpOK P gl sp) {Q : Exit → Act → World → Prop} : ∀ (os : List Oper) (rs : List R) (j lim : Nat) (ts : List (Option Nat)) (S S' : St) (M : Gh) (a : Act) (w : World) (p : Prop), M.gl = gl → (∀ i, os[i]? = ops[j + i]?) → mtRs P ops n os rs = true → allBar rs = true →
    (∃ N own, SimO M N S (fun k => S.nx + j ≤ k) own w ∧ EnvRep M.pc N S.env S.va a.tmps) → n ≤ a.tmps.size → a.defers = [] → rrun sp S.nx j lim ts rs S = some (p, S') → p →
    (∀ a' w' M', M.Le M' → (∃ N own, SimO M' N S' (fun k => S.nx + j + rs.length ≤ k) own w' ∧ EnvRep M'.pc N S'.env S'.va a'.tmps) → n ≤ a'.tmps.size → a'.defers = [] → Q .normal a' w') →
    wpOps P ops Q (List.range' j os.length) a w
  | [], [], j, lim, ts, S, S', M, a, w, p, hgl, _, _, _, h, hn, hd, hr, hp, k => by
    simp only [rrun, Option.some.injEq, Prod.mk.injEq] at hr
    obtain ⟨_, rfl⟩ := hr
    exact k a w M (Gh.Le.refl _) h hn hd
  | [], _ :: _, _, _, _, _, _, _, _, _, _, _, _, hm, _, _, _, _, _, _, _ => by simp [mtRs] at hm
  | _ :: _, [], _, _, _, _, _, _, _, _, _, _, _, hm, _, _, _, _, _, _, _ => by simp [mtRs] at hm
  | o :: os, r :: rs, j, lim, ts, S, S', M, a, w, p, hgl, hos, hm, hb, h, hn, hd, hr, hp, k => by
    simp only [mtRs, Bool.and_eq_true] at hm
    simp only [allBar, Bool.and_eq_true] at hb
    obtain ⟨N, own, hsim, henv⟩ := h
    simp only [rrun, hb.1, if_true] at hr
    split at hr
    · rename_i p1 S1 hstep
      split at hr
      · rename_i q S2 hrest
        simp only [Option.some.injEq, Prod.mk.injEq] at hr
        obtain ⟨rfl, rfl⟩ := hr
        have h0 : ops[j]? = some o := by have := hos 0; simpa using this.symm
        obtain ⟨hE, hV, hnx⟩ := rstep_env hstep
        simp only [List.length_cons, List.range'_succ, wpOps, h0]
        refine op_sound (by rw [hgl]; exact hsp) hm.1 hn hsim (nm := S.nx + j) (Nat.le_refl _) (lim := none) (fun _ _ _ e => e) (fun _ _ e => e) (fun s _ b hb => henv s b hb) hstep hp.1.1 ?_
        intro a' w' M' N' own' e h1 h2 h3 h4 h5 h6 _ _ h7 h8 h9 h10
        have henv' : EnvRep M'.pc N' S1.env S1.va a'.tmps := env_step (henv.mono h1.pc h2) h7 h8 hE hV
        have hsim' : SimO M' N' S1 (fun k => S1.nx + (j + 1) ≤ k) own' w' := by
          refine ⟨h3.base, h3.pc, h3.im, h3.fro, h3.lt, ?_, ?_, fun k hk => h3.fresh k ⟨by omega, by omega⟩, h3.glob, h3.nb, h3.big⟩
          · rw [h4]; exact h3.box
          · rw [h5]; exact h3.tok
        rw [← hnx] at hrest
        refine ops_sound hsp os rs (j + 1) _ _ S1 _ M' a' w' q (h1.gl.trans hgl) (fun i => by have := hos (i + 1); simpa [Nat.add_assoc, Nat.add_comm 1] using this) hm.2 hb.2 ⟨N', own', hsim', henv'⟩ (by rw [h9]; exact hn) (by rw [h10]; exact hd) hrest hp.2 ?_
        intro a2 w2 M2 hle ⟨N2, own2, hs2, he2⟩ hn2 hd2
        refine k a2 w2 M2 (h1.trans hle) ⟨N2, own2, ?_, he2⟩ hn2 hd2
        refine hs2.later fun k hk => ?_
        rw [hnx]
        simp only [List.length_cons] at hk
        omega
      · cases hr
    · cases hr
end
end Go.Proofs.YtbhingdlclfipaaDoor.Ab
