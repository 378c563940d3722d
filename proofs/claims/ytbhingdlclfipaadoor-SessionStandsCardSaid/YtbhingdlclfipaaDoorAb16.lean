/- An abstract calculus over pure data, part 16: code, functions. -/
import Derived.Test.YtbhingdlclfipaaDoorAb15p
namespace Go.Proofs.YtbhingdlclfipaaDoor.Ab
open Go Go.RowKit
set_option linter.unusedVariables false
set_option linter.unusedSimpArgs false

/-- Code. -/
inductive C where
  | skip
  | reg (draw : Bool) (rs : List R)
  | regp (rs : List RP)
  | seq (a b : C)
  | cond (x : X) (t e : C)
  | block (id : Nat) (c : C)
  | loop (c : C)
  | exit (id : Nat)
  | ret
/-- How code is left. -/
inductive Ex where
  | n | x (id : Nat) | r

def mtC (P : Program) (n : Nat) : Code → C → Bool
  | .skip, .skip => true
  | .region _ ops d, .reg d' rs => d == d' && mtRs P ops n ops.toList rs && (if d then afs ops.toList rs && orderOK rs else allBar rs)
  | .region _ ops d, .regp rs => !d && mtRPs P ops n ops.toList rs
  | .seq a b, .seq a' b' => mtC P n a a' && mtC P n b b'
  | .cond x t e, .cond x' t' e' => mtX x x' && mtC P n t t' && mtC P n e e'
  | .block id c, .block id' c' => id == id' && mtC P n c c'
  | .loop c, .loop c' => mtC P n c c'
  | .exit id, .exit id' => id == id'
  | .ret, .ret => true
  | _, _ => false

def awp (sp : Sp) : C → St → (Ex → St → Prop) → Prop
  | .skip, S, K => K .n S
  | .reg _ rs, S, K => match rrun sp S.nx 0 S.nx [] rs S with | some (p, S') => p ∧ K .n { S' with nx := S.nx + rs.length } | none => False
  | .regp rs, S, K => match prun sp S.nx 0 rs S with | some (p, S') => p ∧ K .n { S' with nx := S.nx + rs.length } | none => False
  | .seq a b, S, K => awp sp a S fun e S' => match e with | .n => awp sp b S' K | .x i => K (.x i) S' | .r => K .r S'
  | .cond x t e, S, K => match x.val S.env with | some (.one (.v (.bool b))) => allV S.va x.slot ∧ (b = true → awp sp t S K) ∧ (b = false → awp sp e S K) | _ => False
  | .block id c, S, K => awp sp c S fun e S' => match e with | .n => K .n S' | .x i => if i = id then K .n S' else K (.x i) S' | .r => K .r S'
  | .loop c, S, K => ∃ I : Nat → St → Prop, (∃ k, I k S) ∧ ∀ k S', I k S' → awp sp c S' fun e S'' => match e with | .n => ∃ m, m < k ∧ I m S'' | .x i => K (.x i) S'' | .r => K .r S''
  | .exit id, S, K => K (.x id) S
  | .ret, S, K => K .r S

def KE (K : Ex → St → Prop) : Exit → St → Prop
  | .normal, S => K .n S
  | .exit id, S => K (.x id) S
  | .ret, S => K .r S
  | _, _ => False

section
variable {P : Program} {sp : Sp} {n : Nat}

/-- What is shown behind code. -/
def Post (M : Gh) (n : Nat) (K : Ex → St → Prop) (e : Exit) (a : Act) (w : World) : Prop := ∃ M' S', M.Le M' ∧ Holds M' S' n a w ∧ KE K e S'
theorem mtRPs_len {P : Program} {ops : Array Oper} {n : Nat} : ∀ {os : List Oper} {rs : List RP}, mtRPs P ops n os rs = true → os.length = rs.length
  | [], [], _ => rfl
  | [], _ :: _, h => by simp [mtRPs] at h
  | _ :: _, [], h => by simp [mtRPs] at h
  | o :: os, r :: rs, h => by simp only [mtRPs, Bool.and_eq_true] at h; simp [mtRPs_len h.2]
theorem regp_sound {gl : List (Nat × Nat × Value)} (hsp : SpOK P gl sp) {id : Nat} {ops : Array Oper} {rs : List RP} {M : Gh} {S : St} {a : Act} {w : World} {K : Ex → St → Prop} (hm : mtRPs P ops n ops.toList rs = true) (hgl : M.gl = gl) (h : Holds M S n a w) (hk : awp sp (.regp rs) S K) :
    (Code.region id ops false).wp P (Post M n K) a w := by
  simp only [awp] at hk
  split at hk
  case h_2 => exact hk.elim
  rename_i p S' hr
  obtain ⟨hp, hk⟩ := hk
  obtain ⟨N, own, hsim, henv⟩ := h.sim
  have hlen := mtRPs_len hm
  refine wp_region ?_
  have := opsP_sound hsp (ops := ops) (n := n) (Q := Post M n K) ops.toList rs 0 S S' M a w p hgl (fun i => by simp) hm ⟨N, own, by simpa using hsim, henv⟩ h.size h.defers hr hp
    (fun a' w' M' hle ⟨N', own', hs, he⟩ hn hdf => ⟨M', { S' with nx := S.nx + rs.length }, hle, ⟨⟨N', own', (hs.nx _).later (fun k (hk : S.nx + rs.length ≤ k) => (by omega)), he⟩, hn, hdf⟩, hk⟩)
  rw [show List.range ops.size = List.range' 0 ops.toList.length by simp [List.range_eq_range']]
  exact this
theorem reg_sound {gl : List (Nat × Nat × Value)} (hsp : SpOK P gl sp) (hmix : P.follows .mixedOrders = true) {id : Nat} {ops : Array Oper} {d : Bool} {rs : List R} {M : Gh} {S : St} {a : Act} {w : World} {K : Ex → St → Prop} (hm : mtC P n (.region id ops d) (.reg d rs) = true) (hgl : M.gl = gl) (h : Holds M S n a w) (hk : awp sp (.reg d rs) S K) :
    (Code.region id ops d).wp P (Post M n K) a w := by
  simp only [mtC, BEq.rfl, Bool.true_and, Bool.and_eq_true] at hm
  obtain ⟨hm, hd⟩ := hm
  simp only [awp] at hk
  split at hk
  case h_2 => exact hk.elim
  rename_i p S' hr
  obtain ⟨hp, hk⟩ := hk
  obtain ⟨N, own, hsim, henv⟩ := h.sim
  have hlen := (mtRs_spec hm).1
  have hsize : ops.size = rs.length := by simpa using hlen
  cases d with
  | false =>
    simp only [Bool.false_eq_true, if_false] at hd
    refine wp_region ?_
    have := ops_sound hsp (ops := ops) (n := n) (Q := Post M n K) ops.toList rs 0 S.nx [] S S' M a w p hgl (fun i => by simp) hm hd ⟨N, own, by simpa using hsim, henv⟩ h.size h.defers hr hp
      (fun a' w' M' hle ⟨N', own', hs, he⟩ hn hdf => ⟨M', { S' with nx := S.nx + rs.length }, hle, ⟨⟨N', own', (hs.nx _).later (fun k (hk : S.nx + rs.length ≤ k) => (by omega)), he⟩, hn, hdf⟩, hk⟩)
    rw [show List.range ops.size = List.range' 0 ops.toList.length by simp [List.range_eq_range']]
    exact this
  | true =>
    simp only [if_true, Bool.and_eq_true] at hd
    refine wp_region_any hmix ?_
    obtain ⟨T, L, t0, tn, l0, hst, hcr⟩ := snaps rs 0 S.nx [] S S' p hr hp
    have hnone : ∀ k, S.nx ≤ k → S.bx k = none ∧ S.tk k = none := fun k hk => by
      obtain ⟨f1, f2⟩ := hsim.fresh k hk
      refine ⟨?_, ?_⟩
      · cases hb : S.bx k with
        | none => rfl
        | some b => obtain ⟨g, o, h1, _⟩ := hsim.box k b hb; rw [f1] at h1; cases h1
      · cases hb : S.tk k with
        | none => rfl
        | some q => obtain ⟨v, h1, _⟩ := hsim.tok k q hb; rw [f2] at h1; cases h1
    have hS : Snaps sp S.nx rs T L := ⟨l0, fun i r hr' => by have := hst i r hr'; simpa using this, fun i r hr' k hk rk hrk hlt hb b h1 h2 => apart_mem (hcr i r hr') k hk b (by simp [hlt, tcB, hrk, hb, h1]) h2, fun k hk => by rw [t0]; exact (hnone k hk).1, fun k hk => by rw [t0]; exact (hnone k hk).2⟩
    have hempty : ∀ k, (Array.replicate ops.size false).getD k false = false := fun k => by
      simp only [Array.getD_eq_getD_getElem?, Array.getElem?_replicate]
      split <;> rfl
    refine any_sound (by rw [hgl]; exact hsp) hm hd.1 (orderOK_spec hd.2) hS (M0 := M) (Q := Post M n K) (fun a' w' M' hle ⟨N', own', hs, he⟩ hn hdf => ?_) ops.size (Array.replicate ops.size false) a _ M N own (by simp [hsize]) (by simp) ?_
    · rw [tn] at hs he
      exact ⟨M', { S' with nx := S.nx + rs.length }, hle, ⟨⟨N', own', hs.nx _, he⟩, hn, hdf⟩, hk⟩
    · have hbl : bl rs (fun k => (Array.replicate ops.size false).getD k false) = 0 := by
        have : bl rs (fun k => (Array.replicate ops.size false).getD k false) = lastL (fun _ => false) rs.length := lastL_congr _ fun k _ => by simp only [hempty k, Bool.false_and]
        rw [this]
        generalize rs.length = m
        induction m with
        | zero => rfl
        | succ m ih => simpa [lastL] using ih
      have hlw : ∀ s, lw rs (fun k => (Array.replicate ops.size false).getD k false) s = 0 := fun s => by
        have : lw rs (fun k => (Array.replicate ops.size false).getD k false) s = lastL (fun _ => false) rs.length := lastL_congr _ fun k _ => by simp only [hempty k, Bool.false_and]
        rw [this]
        generalize rs.length = m
        induction m with
        | zero => rfl
        | succ m ih => simpa [lastL] using ih
      have hlb : ∀ q, lwb (barOf rs) (Wr rs T) rs.length (fun k => (Array.replicate ops.size false).getD k false) q = 0 := fun q => by
        have : lwb (barOf rs) (Wr rs T) rs.length (fun k => (Array.replicate ops.size false).getD k false) q = lastL (fun _ => false) rs.length := lastL_congr _ fun k _ => by simp only [hempty k, Bool.false_and]
        rw [this]
        generalize rs.length = m
        induction m with
        | zero => rfl
        | succ m ih => simpa [lastL] using ih
      have hw : SimO M N S (fun k => S.nx ≤ k) own { w with drawn := w.drawn + 1 } := hsim.drew
      refine ⟨Gh.Le.refl _, fun i r _ hl => ?_, fun i hl => ?_, (hw.sub (fun k b hb => ?_) (fun k b hb => ?_)).later fun k hk => hk.1, fun s => ?_, h.size, h.defers⟩
      · rw [hempty] at hl; cases hl
      · rw [hempty] at hl; cases hl
      · have hb : sx (fun i => (T i).bx) S.nx (bl rs (fun k => (Array.replicate ops.size false).getD k false)) (lwb (barOf rs) (Wr rs T) rs.length (fun k => (Array.replicate ops.size false).getD k false)) (fun k => (Array.replicate ops.size false).getD k false) k = some b := hb
        rw [hbl] at hb
        unfold sx at hb
        split at hb
        · simp only [hlb, t0] at hb; exact hb
        · simp only [hempty, Bool.false_eq_true, if_false] at hb; cases hb
      · have hb : sx (fun i => (T i).tk) S.nx (bl rs (fun k => (Array.replicate ops.size false).getD k false)) (fun _ => bl rs (fun k => (Array.replicate ops.size false).getD k false)) (fun k => (Array.replicate ops.size false).getD k false) k = some b := hb
        rw [hbl] at hb
        unfold sx at hb
        split at hb
        · simp only [t0] at hb; exact hb
        · simp only [hempty, Bool.false_eq_true, if_false] at hb; cases hb
      · rw [hlw s, t0]
        exact fun b hb => henv s b hb

/-- Rounds that come to an end. -/
theorem wp_loop_nat {c : Code} {Q : Exit → Act → World → Prop} {a : Act} {w : World} (I : Nat → Act → World → Prop) (h0 : ∃ k, I k a w) (round : ∀ k a w, I k a w → c.wp P (Exit.then (fun a' w' => ∃ m, m < k ∧ I m a' w') Q) a w) : (Code.loop c).wp P Q a w := by
  classical
  have least : ∀ a w, (∃ k, I k a w) → ∃ k, I k a w ∧ ∀ m, I m a w → k ≤ m := by
    intro a w ⟨k, hk⟩
    induction k using Nat.strongRecOn with
    | _ k ih =>
      by_cases h : ∃ m, m < k ∧ I m a w
      · obtain ⟨m, hm, hI⟩ := h; exact ih m hm hI
      · exact ⟨k, hk, fun m hm => Nat.le_of_not_lt fun hlt => h ⟨m, hlt, hm⟩⟩
  refine wp_loop (fun a w => ∃ k, I k a w) (fun a w => if h : ∃ k, I k a w then (least a w h).choose else 0) h0 ?_
  intro a w h
  obtain ⟨h1, h2⟩ := (least a w h).choose_spec
  refine wp_mono (round _ a w h1) ?_
  intro e a' w' he
  cases e <;> first | exact he | skip
  obtain ⟨m, hm, hI⟩ := he
  have hex : ∃ k, I k a' w' := ⟨m, hI⟩
  refine ⟨hex, ?_⟩
  simp only [dif_pos h, dif_pos hex]
  exact Nat.lt_of_le_of_lt ((least a' w' hex).choose_spec.2 m hI) hm

theorem awp_sound {gl : List (Nat × Nat × Value)} (hsp : SpOK P gl sp) (hmix : P.follows .mixedOrders = true) : ∀ (ir : C) (c : Code) (M : Gh) (S : St) (a : Act) (w : World) (K : Ex → St → Prop), mtC P n c ir = true → M.gl = gl → Holds M S n a w → awp sp ir S K → c.wp P (Post M n K) a w := by
  intro ir
  induction ir with
  | skip =>
    intro c M S a w K hm hgl h hk
    cases c <;> simp [mtC] at hm
    exact wp_skip ⟨M, S, Gh.Le.refl _, h, hk⟩
  | reg d rs =>
    intro c M S a w K hm hgl h hk
    cases c <;> (try simp [mtC] at hm)
    rename_i id ops d'
    have : d' = d := hm.1.1
    subst this
    exact reg_sound hsp hmix (by simp [mtC, hm]) hgl h hk
  | regp rs =>
    intro c M S a w K hm hgl h hk
    cases c <;> (try simp [mtC] at hm)
    rename_i id ops d'
    obtain ⟨hd, hm⟩ := hm
    subst hd
    exact regp_sound hsp hm hgl h hk
  | seq x y ihx ihy =>
    intro c M S a w K hm hgl h hk
    cases c <;> (try simp [mtC] at hm)
    refine wp_seq (wp_mono (ihx _ M S a w _ hm.1 hgl h hk) ?_)
    intro e a' w' he
    obtain ⟨M1, S1, hle, h1, hk1⟩ := he
    cases e with
    | normal =>
      refine wp_mono (ihy _ M1 S1 a' w' K hm.2 (hle.gl.trans hgl) h1 hk1) ?_
      intro e a2 w2 ⟨M2, S2, hle2, h2, hk2⟩
      exact ⟨M2, S2, hle.trans hle2, h2, hk2⟩
    | exit id => exact ⟨M1, S1, hle, h1, hk1⟩
    | ret => exact ⟨M1, S1, hle, h1, hk1⟩
    | goto l => exact hk1.elim
    | panic ch => exact hk1.elim
    | outgrown => exact hk1.elim
  | cond x t e iht ihe =>
    intro c M S a w K hm hgl h hk
    cases c <;> (try simp [mtC] at hm)
    rename_i y t' e'
    simp only [awp] at hk
    split at hk
    · rename_i b hb
      obtain ⟨hv, hk1, hk2⟩ := hk
      obtain ⟨N, own, hsim, henv⟩ := h.sim
      have hc := (mtX_rep hm.1.1 hb (allV_mem hv) henv).B.v_inv
      exact wp_cond_split hc (fun hb => iht _ M S a w K hm.1.2 hgl h (hk1 hb)) (fun hb => ihe _ M S a w K hm.2 hgl h (hk2 hb))
    · exact hk.elim
  | block id x ih =>
    intro c M S a w K hm hgl h hk
    cases c <;> (try simp [mtC] at hm)
    rename_i id' x'
    obtain ⟨rfl, hm⟩ := hm
    refine wp_block (wp_mono (ih _ M S a w _ hm hgl h hk) ?_)
    intro e a' w' he
    obtain ⟨M1, S1, hle, h1, hk1⟩ := he
    cases e with
    | normal => exact ⟨M1, S1, hle, h1, hk1⟩
    | exit i =>
      show if i = id' then _ else _
      have hk1 : if i = id' then K .n S1 else K (.x i) S1 := hk1
      split
      · rename_i hi; rw [if_pos hi] at hk1; exact ⟨M1, S1, hle, h1, hk1⟩
      · rename_i hi; rw [if_neg hi] at hk1; exact ⟨M1, S1, hle, h1, hk1⟩
    | ret => exact ⟨M1, S1, hle, h1, hk1⟩
    | goto l => exact hk1.elim
    | panic ch => exact hk1.elim
    | outgrown => exact hk1.elim
  | loop x ih =>
    intro c M S a w K hm hgl h hk
    cases c <;> (try simp [mtC] at hm)
    rename_i x'
    obtain ⟨I, ⟨k0, h0⟩, hround⟩ := hk
    refine wp_loop_nat (fun k a w => ∃ M' S', M.Le M' ∧ Holds M' S' n a w ∧ I k S') ⟨k0, M, S, Gh.Le.refl _, h, h0⟩ ?_
    intro k a w ⟨M1, S1, hle, h1, hI⟩
    refine wp_mono (ih _ M1 S1 a w _ hm (hle.gl.trans hgl) h1 (hround k S1 hI)) ?_
    intro e a' w' ⟨M2, S2, hle2, h2, hk2⟩
    cases e with
    | normal =>
      obtain ⟨m, hm, hI2⟩ := hk2
      exact ⟨m, hm, M2, S2, hle.trans hle2, h2, hI2⟩
    | exit i => exact ⟨M2, S2, hle.trans hle2, h2, hk2⟩
    | ret => exact ⟨M2, S2, hle.trans hle2, h2, hk2⟩
    | goto l => exact hk2.elim
    | panic ch => exact hk2.elim
    | outgrown => exact hk2.elim
  | exit id =>
    intro c M S a w K hm hgl h hk
    cases c <;> (try simp [mtC] at hm)
    subst hm
    exact wp_exit ⟨M, S, Gh.Le.refl _, h, hk⟩
  | ret =>
    intro c M S a w K hm hgl h hk
    cases c <;> (try simp [mtC] at hm)
    exact wp_ret ⟨M, S, Gh.Le.refl _, h, hk⟩
end

/-! ### functions -/
/-- Where a result lies: in a slot; in memory. -/
inductive Res where
  | t (s : Nat)
  | c (s n : Nat) (ag : Bool)
structure Fun where
  n : Nat
  code : C
  res : List Res
def mtRes (P : Program) : List ResultVar → List Res → Bool
  | [], [] => true
  | .tmp t :: r, .t s :: q => t == s && mtRes P r q
  | .cell x T :: r, .c s n ag :: q => x == s && cellB P T n ag && mtRes P r q
  | _, _ => false
def mtF (P : Program) (f : FuncId) (F : Fun) : Bool :=
  match P.funcs[f]? with
  | some fn => fn.ntmps == F.n && mtRes P fn.results.toList F.res && (match fn.body with | some c => mtC P F.n c F.code | none => false)
  | none => false
def A.clo : A → Option A
  | .one d => d.clo.map .one
  | .agg cs => (cloL cs).map .agg
  | .tup _ => none
theorem RepA.clo {pc : Nat → Nat → Option Value} {N : Nms} {v : Value} {a a' : A} (h : RepA pc N v a) (e : a.clo = some a') : RepB pc Nms.nil v a' := by
  cases a with
  | one d =>
    obtain ⟨d', hd, rfl⟩ := Option.map_eq_some_iff.1 e
    exact Rep.clo h hd
  | agg cs =>
    obtain ⟨cs', hc, rfl⟩ := Option.map_eq_some_iff.1 e
    obtain ⟨us, rfl, h⟩ := h
    exact ⟨us, rfl, h.clo hc⟩
  | tup vs => cases e
def res1 (S : St) : Res → Option (Prop × A)
  | .t s => (S.env s).bind fun a => a.clo.map fun a' => (S.va s, a')
  | .c s n ag => match S.env s with
    | some (.one (.ptr b off)) => (match S.bx b with | some (.cells _ cs) => (cellsAt cs off n ag).bind fun a => a.clo.map fun a' => (S.va s ∧ off + n ≤ cs.length, a') | _ => none)
    | _ => none
def resL (S : St) : List Res → Option (Prop × List A)
  | [] => some (True, [])
  | r :: rs => match res1 S r, resL S rs with | some (p, a), some (q, l) => some (p ∧ q, a :: l) | _, _ => none
def pack : List A → A
  | [a] => a
  | l => .tup l
def St.start (l : List A) : St := { env := fun t => l[t]?, va := fun _ => True, bx := fun _ => none, tk := fun _ => none, nx := 0 }
/-- What is asked of a function's result. -/
def Ends (F : Fun) (r : A) (e : Ex) (S : St) : Prop :=
  match e with
  | .x _ => False
  | _ => match resL S F.res with | some (p, l) => p ∧ pack l = r | none => False

section
variable {P : Program} {sp : Sp} {n : Nat}
def resOne (tmps : Array Value) : ResultVar → Sem Value
  | .tmp t => pure (tmps.getD t undef)
  | .cell a t => do loadVar t (← asAddr (tmps.getD a undef))
theorem results_eq (fn : Func) (tmps : Array Value) : results fn tmps = (do let vs ← fn.results.mapM (resOne tmps); pure (if h : vs.size = 1 then vs[0] else .tuple vs)) := by
  have : (resOne tmps) = (fun | .tmp t => pure (tmps.getD t undef) | .cell a t => do loadVar t (← asAddr (tmps.getD a undef)) : ResultVar → Sem Value) := by funext v; cases v <;> rfl
  rw [this]
  rfl
theorem res_rep {M : Gh} {S : St} {a : Act} {w : World} {N : Nms} {own : Nat → Option Ow} {fr : Nat → Prop} (h : SimO M N S fr own w) (he : EnvRep M.pc N S.env S.va a.tmps) : ∀ {vs : List ResultVar} {rs : List Res} {p : Prop} {l : List A}, mtRes P vs rs = true → resL S rs = some (p, l) → p →
    ∃ us : List Value, (vs.mapM (resOne a.tmps)).run P w = .ok us w ∧ us.length = l.length ∧ ∀ (j : Nat) b, l[j]? = some b → ∃ u, us[j]? = some u ∧ RepB M.pc Nms.nil u b
  | [], [], p, l, _, hr, _ => by
    simp only [resL, Option.some.injEq, Prod.mk.injEq] at hr
    obtain ⟨_, rfl⟩ := hr
    exact ⟨[], by simp, rfl, fun j b h => by simp at h⟩
  | [], _ :: _, _, _, hm, _, _ => by simp [mtRes] at hm
  | v :: vs, [], _, _, hm, _, _ => by cases v <;> simp [mtRes] at hm
  | v :: vs, r :: rs, p, l, hm, hr, hp => by
    simp only [resL] at hr
    split at hr
    case h_2 => cases hr
    rename_i p1 b q l' h1 h2
    simp only [Option.some.injEq, Prod.mk.injEq] at hr
    obtain ⟨rfl, rfl⟩ := hr
    have key : mtRes P vs rs = true ∧ ∃ u, (resOne a.tmps v).run P w = .ok u w ∧ RepB M.pc Nms.nil u b := by
      cases v with
      | tmp t =>
        cases r with
        | t s =>
          simp only [mtRes, Bool.and_eq_true, beq_iff_eq] at hm
          obtain ⟨rfl, hm⟩ := hm
          obtain ⟨a1, ha1, h1⟩ := bind_some h1
          obtain ⟨a2, ha2, h1⟩ := map_some h1
          simp only [Prod.mk.injEq] at h1
          obtain ⟨rfl, rfl⟩ := h1
          obtain ⟨u, hu, hrep⟩ := (he t a1 ha1).1 hp.1
          exact ⟨hm, u, by simp [resOne, hu], hrep.clo ha2⟩
        | c s n ag => simp [mtRes] at hm
      | cell x T =>
        cases r with
        | t s => simp [mtRes] at hm
        | c s n ag =>
          simp only [mtRes, Bool.and_eq_true, beq_iff_eq] at hm
          obtain ⟨⟨rfl, hc⟩, hm⟩ := hm
          obtain ⟨d, c1, c2, c3, c4⟩ := cellB_spec hc
          simp only [res1] at h1
          split at h1
          · rename_i bb off hb
            split at h1
            · rename_i T' cs hbx
              obtain ⟨a1, ha1, h1⟩ := bind_some h1
              obtain ⟨a2, ha2, h1⟩ := map_some h1
              simp only [Prod.mk.injEq] at h1
              obtain ⟨rfl, rfl⟩ := h1
              obtain ⟨⟨hv, hlen⟩, _⟩ := hp
              obtain ⟨u, hu, hrep⟩ := (he x _ hb).1 hv
              obtain ⟨g, hg, rfl⟩ := (RepA.B hrep).ptr_inv
              obtain ⟨us, fz, hus, _, hrl⟩ := h.cells hbx hg
              have hln : (((us.toList.take cs.length).drop off).take n).length = n := by have := hrl.1; simp at this ⊢; omega
              have hrun := run_loadVar_list (P := P) (w := w) c1 (((us.toList.take cs.length).drop off).take n) (by rw [hln]; exact c2) ag c3 (by rw [hln]; exact c4) (g := g) (o := off) (fun j u hj => by
                rw [cell_of_heap hus, ← hj, List.getElem?_take, List.getElem?_drop, List.getElem?_take]
                rw [List.getElem?_take, List.getElem?_drop, List.getElem?_take] at hj
                split
                · rename_i h1
                  rw [if_pos h1] at hj
                  split
                  · simp
                  · rename_i h2; rw [if_neg h2] at hj; cases hj
                · rename_i hge
                  rw [if_neg hge] at hj; cases hj)
              refine ⟨hm, _, ?_, (repA_cellsAt hrl ha1 c4 hlen).clo ha2⟩
              simp [resOne, hu, asAddr, hrun]
            · cases h1
          · cases h1
    obtain ⟨hm', u, hu, hrep⟩ := key
    obtain ⟨us, hus, hl, hall⟩ := res_rep h he hm' h2 hp.2
    refine ⟨u :: us, ?_, by simp [hl], fun j b' hb' => ?_⟩
    · rw [List.mapM_cons]
      simp only [Sem.run_bind, hu, Result.andThen_ok, hus, Sem.run_pure]
    · cases j with
      | zero => simp only [List.getElem?_cons_zero, Option.some.injEq] at hb'; subst hb'; exact ⟨u, rfl, hrep⟩
      | succ j => simpa using hall j b' (by simpa using hb')

/-- A function's contract. -/
theorem AF_of {gl : List (Nat × Nat × Value)} (hsp : SpOK P gl sp) (hmix : P.follows .mixedOrders = true) {f : FuncId} {F : Fun} (hm : mtF P f F = true) {l : List A} {r : A} (h : awp sp F.code (St.start l) (Ends F r)) : AF P gl f l r := by
  intro pc w vs hpc hglob hargs
  unfold mtF at hm
  split at hm
  case h_2 => cases hm
  rename_i fn hfn
  simp only [Bool.and_eq_true, beq_iff_eq] at hm
  obtain ⟨⟨hn, hres⟩, hbody⟩ := hm
  split at hbody
  case h_2 => cases hbody
  rename_i c hc
  refine calls_of_wp hfn hc ?_
  let M : Gh := ⟨pc, fun g => w.heap[g]?, fun g => g < w.heap.size, w, gl, Nms.nil⟩
  have hsim : SimO M Nms.nil (St.start l) (fun k => (St.start l).nx ≤ k) (fun _ => none) w :=
    ⟨⟨rfl, rfl, rfl⟩, hpc, fun g o h => h, fun g hg => ⟨hg, rfl⟩, fun g o h => (by cases h), fun n b h => (by cases h), fun t q h => (by cases h), fun n _ => ⟨rfl, rfl⟩, hglob, Nms.Le.refl _, Nat.le_refl _⟩
  have henv : EnvRep M.pc Nms.nil (St.start l).env (St.start l).va (vs ++ Array.replicate (fn.ntmps - vs.size) undef) := by
    intro t b hb
    refine ⟨fun _ => ?_, fun hv => absurd trivial hv⟩
    obtain ⟨v, hv, hrep⟩ := hargs.2 t b hb
    have hlt : t < vs.size := by have := (List.getElem?_eq_some_iff.1 hv).1; simpa using this
    refine ⟨v, ?_, hrep.A⟩
    rw [Array.getElem?_append_left hlt, ← Array.getElem?_toList]
    exact hv
  have hH : Holds M (St.start l) F.n { tmps := vs ++ Array.replicate (fn.ntmps - vs.size) undef, defers := [] } w :=
    ⟨⟨_, _, hsim, henv⟩, by rw [← hn]; simp; omega, rfl⟩
  refine wp_mono (awp_sound hsp hmix F.code c M (St.start l) _ w _ hbody rfl hH h) ?_
  intro e a' w' ⟨M', S', hle, hH', hk⟩
  have fin : (match resL S' F.res with | some (p, l) => p ∧ pack l = r | none => False) → a'.defers = [] ∧ ∃ v, (results fn a'.tmps).run P w' = .ok v w' ∧ ∃ pc', Left pc pc' w w' ∧ RepA pc' Nms.nil v r := by
    intro hk
    split at hk
    case h_2 => exact hk.elim
    rename_i p lr hr
    obtain ⟨hp, rfl⟩ := hk
    obtain ⟨N, own, hs, he⟩ := hH'.sim
    obtain ⟨us, hus, hlen, hall⟩ := res_rep (P := P) hs he hres hr hp
    have hleft : Left pc M'.pc w w' := by
      refine ⟨hle.pc, hs.pc, fun g hg => ?_, fun g hg i => hle.keep g hg i, ?_, ?_⟩
      · have h1 := hle.im g w.heap[g] (by show w.heap[g]? = _; exact Array.getElem?_eq_getElem hg)
        rw [hs.im g _ h1, Array.getElem?_eq_getElem hg]
      · rcases Nat.eq_zero_or_pos w.heap.size with h0 | h0
        · omega
        · have := (hs.fro (w.heap.size - 1) (by rw [hle.fro]; show w.heap.size - 1 < w.heap.size; omega)).1
          omega
      · have := hs.base
        rw [hle.w0] at this
        exact this
    have hrun : (results fn a'.tmps).run P w' = .ok (if h : us.toArray.size = 1 then us.toArray[0] else .tuple us.toArray) w' := by
      have e : (fn.results.mapM (resOne a'.tmps)).run P w' = .ok us.toArray w' := by
        rw [Array.mapM_eq_mapM_toList]
        simp only [Sem.run_map, hus, Result.andThen]
      rw [results_eq]
      simp only [Sem.run_bind, e, Result.andThen_ok, Sem.run_pure]
    refine ⟨hH'.defers, _, hrun, M'.pc, hleft, ?_⟩
    match lr, hlen, hall with
    | [b], hlen, hall =>
      obtain ⟨u, hu, hrep⟩ := hall 0 b rfl
      have : us = [u] := by
        match us, hlen, hu with
        | [x], _, hu => simp at hu; simp [hu]
      subst this
      simpa [pack] using hrep.A
    | [], hlen, hall =>
      have : us = [] := List.eq_nil_of_length_eq_zero (by simpa using hlen)
      subst this
      exact ⟨#[], rfl, rfl, fun j b h => by simp at h⟩
    | b1 :: b2 :: l2, hlen, hall =>
      have hne : ¬ us.length = 1 := by simp at hlen; omega
      rw [dif_neg (by simpa using hne)]
      exact ⟨us.toArray, rfl, by simpa using hlen, fun j b hb => let ⟨u, hu, hrep⟩ := hall j b hb; ⟨u, by simpa using hu, hrep⟩⟩
  cases e with
  | normal => exact fin hk
  | ret => exact fin hk
  | exit id => exact hk.elim
  | goto l => exact hk.elim
  | panic ch => exact hk.elim
  | outgrown => exact hk.elim
/-! ### functions that are handed variables -/
def pEnv : Nat → List A → List A
  | _, [] => []
  | k, .tup [.agg _] :: l => .one (.ptr k 0) :: pEnv (k + 1) l
  | k, a :: l => a :: pEnv k l
def pBx : List TypeId → List A → List Box
  | T :: Ts, .tup [.agg cs] :: l => .cells T cs :: pBx Ts l
  | Ts, _ :: l => pBx Ts l
  | _, [] => []
def St.startP (Ts : List TypeId) (l : List A) : St := { env := fun t => (pEnv 0 l)[t]?, va := fun _ => True, bx := fun n => (pBx Ts l)[n]?, tk := fun _ => none, nx := (pBx Ts l).length }
def outL (S : St) : Nat → List TypeId → List (List D) → Prop
  | _, [], [] => True
  | k, T :: Ts, cs :: css => (match S.bx k with | some (.cells T' c) => T' = T ∧ cloL c = some cs | _ => False) ∧ outL S (k + 1) Ts css
  | _, _, _ => False
def EndsP (F : Fun) (r : A) (Ts : List TypeId) (css : List (List D)) (e : Ex) (S : St) : Prop :=
  match e with
  | .x _ => False
  | _ => (match resL S F.res with | some (p, l) => p ∧ pack l = r | none => False) ∧ outL S 0 Ts css
theorem outL_get {S : St} : ∀ {Ts : List TypeId} {css : List (List D)} {k : Nat}, outL S k Ts css → Ts.length = css.length ∧ ∀ (j : Nat) T, Ts[j]? = some T → ∃ c cs, S.bx (k + j) = some (.cells T c) ∧ css[j]? = some cs ∧ cloL c = some cs
  | [], [], k, h => ⟨rfl, fun j T h => by simp at h⟩
  | [], _ :: _, k, h => h.elim
  | _ :: _, [], k, h => h.elim
  | T :: Ts, cs :: css, k, h => by
    obtain ⟨h1, h2⟩ := h
    obtain ⟨h3, h4⟩ := outL_get h2
    refine ⟨by simp [h3], fun j T' hj => ?_⟩
    cases j with
    | zero =>
      simp only [List.getElem?_cons_zero, Option.some.injEq] at hj
      subst hj
      split at h1
      · rename_i T' c hb
        obtain ⟨rfl, h1⟩ := h1
        exact ⟨c, cs, hb, rfl, h1⟩
      · exact h1.elim
    | succ j =>
      obtain ⟨c, cs', h5, h6, h7⟩ := h4 j T' (by simpa using hj)
      exact ⟨c, cs', by rw [← h5]; congr 1; omega, by simpa using h6, h7⟩
/-- Names of the variables that are handed over. -/
def nmsP (gs : List (Nat × TypeId)) : Nms := ⟨fun n => (gs[n]?).map (·.1), fun _ => none⟩
theorem PArgs_start {pc : Nat → Nat → Option Value} {w : World} : ∀ {vs : List Value} {l : List A} {gs : List (Nat × TypeId)} {k : Nat} {N : Nms}, PArgs pc w vs l gs → (∀ j g T, gs[j]? = some (g, T) → N.bx (k + j) = some g) →
    (∀ (t : Nat) b, (pEnv k l)[t]? = some b → ∃ v, vs[t]? = some v ∧ RepB pc N v b) ∧ (pBx (gs.map (·.2)) l).length = gs.length ∧
    ∀ (j : Nat) b, (pBx (gs.map (·.2)) l)[j]? = some b → ∃ g T cs, gs[j]? = some (g, T) ∧ b = .cells T cs ∧ VarAt pc w g T cs ∧ ∀ i, pc g i = none := by
  intro vs l
  induction l generalizing vs with
  | nil =>
    intro gs k N h hN
    cases vs with
    | nil =>
      cases gs with
      | nil => exact ⟨fun t b hb => by simp [pEnv] at hb, rfl, fun j b hb => by simp [pBx] at hb⟩
      | cons g gs => exact h.elim
    | cons v vs => cases gs <;> exact h.elim
  | cons a l ih =>
    intro gs k N h hN
    cases vs with
    | nil => exact h.elim
    | cons v vs =>
    have oth : (∀ cs, a ≠ .tup [.agg cs]) → RepB pc Nms.nil v a → PArgs pc w vs l gs → pEnv k (a :: l) = a :: pEnv k l → pBx (gs.map (·.2)) (a :: l) = pBx (gs.map (·.2)) l →
        (∀ (t : Nat) b, (pEnv k (a :: l))[t]? = some b → ∃ v', (v :: vs)[t]? = some v' ∧ RepB pc N v' b) ∧ (pBx (gs.map (·.2)) (a :: l)).length = gs.length ∧
        ∀ (j : Nat) b, (pBx (gs.map (·.2)) (a :: l))[j]? = some b → ∃ g T cs, gs[j]? = some (g, T) ∧ b = .cells T cs ∧ VarAt pc w g T cs ∧ ∀ i, pc g i = none := by
      intro _ h1 h2 e1 e2
      obtain ⟨i1, i2, i3⟩ := ih h2 hN
      rw [e1, e2]
      refine ⟨fun t b hb => ?_, i2, i3⟩
      cases t with
      | zero => simp only [List.getElem?_cons_zero, Option.some.injEq] at hb; subst hb; exact ⟨v, rfl, h1.mono (fun _ _ _ e => e) (Nms.nil_le N)⟩
      | succ t => simpa using i1 t b (by simpa using hb)
    match a, h with
    | .one d, h => 
      have h' : RepB pc Nms.nil v (.one d) ∧ PArgs pc w vs l gs := by cases gs <;> exact h
      exact oth (fun cs e => by cases e) h'.1 h'.2 rfl (by cases gs <;> rfl)
    | .agg d, h =>
      have h' : RepB pc Nms.nil v (.agg d) ∧ PArgs pc w vs l gs := by cases gs <;> exact h
      exact oth (fun cs e => by cases e) h'.1 h'.2 rfl (by cases gs <;> rfl)
    | .tup [.agg cs], h =>
      cases gs with
      | nil => exact h.elim
      | cons q gs =>
        obtain ⟨g, T⟩ := q
        obtain ⟨rfl, h1, h2, h3⟩ := h
        obtain ⟨i1, i2, i3⟩ := ih (k := k + 1) (N := N) h3 (fun j g' T' hj => by have := hN (j + 1) g' T' (by simpa using hj); rw [← this]; congr 1; omega)
        refine ⟨fun t b hb => ?_, by simp [pBx, i2], fun j b hb => ?_⟩
        · cases t with
          | zero =>
            simp only [pEnv, List.getElem?_cons_zero, Option.some.injEq] at hb; subst hb
            exact ⟨_, rfl, .ptr N k 0 g (hN 0 g T rfl)⟩
          | succ t => simpa using i1 t b (by simpa [pEnv] using hb)
        · cases j with
          | zero => simp only [pBx, List.map_cons, List.getElem?_cons_zero, Option.some.injEq] at hb; subst hb; exact ⟨g, T, cs, rfl, rfl, h1, h2⟩
          | succ j => simpa using i3 j b (by simpa [pBx] using hb)
    | .tup [], h => cases gs <;> exact h.elim
    | .tup [.one _], h => cases gs <;> exact h.elim
    | .tup [.tup _], h => cases gs <;> exact h.elim
    | .tup (x :: _ :: _), h => cases x <;> cases gs <;> exact h.elim
def nPtr : List A → Nat
  | [] => 0
  | .tup _ :: l => nPtr l + 1
  | _ :: l => nPtr l
theorem PArgs_len {pc : Nat → Nat → Option Value} {w : World} : ∀ {l : List A} {vs : List Value} {gs : List (Nat × TypeId)}, PArgs pc w vs l gs → gs.length = nPtr l
  | [], vs, gs, h => by
    cases vs with
    | nil => cases gs with
      | nil => rfl
      | cons g gs => exact h.elim
    | cons v vs => cases gs <;> exact h.elim
  | a :: l, [], gs, h => h.elim
  | .one d :: l, v :: vs, gs, h => by
    have h' : RepB pc Nms.nil v (.one d) ∧ PArgs pc w vs l gs := by cases gs <;> exact h
    simpa [nPtr] using PArgs_len h'.2
  | .agg d :: l, v :: vs, gs, h => by
    have h' : RepB pc Nms.nil v (.agg d) ∧ PArgs pc w vs l gs := by cases gs <;> exact h
    simpa [nPtr] using PArgs_len h'.2
  | .tup [.agg cs] :: l, v :: vs, gs, h => by
    cases gs with
    | nil => exact h.elim
    | cons q gs =>
      obtain ⟨g, T⟩ := q
      simp [nPtr, PArgs_len h.2.2.2]
  | .tup [] :: l, v :: vs, gs, h => by cases gs <;> exact h.elim
  | .tup [.one _] :: l, v :: vs, gs, h => by cases gs <;> exact h.elim
  | .tup [.tup _] :: l, v :: vs, gs, h => by cases gs <;> exact h.elim
  | .tup (x :: _ :: _) :: l, v :: vs, gs, h => by cases x <;> cases gs <;> exact h.elim
theorem AFP_of {gl : List (Nat × Nat × Value)} (hsp : SpOK P gl sp) (hmix : P.follows .mixedOrders = true) {f : FuncId} {F : Fun} (hm : mtF P f F = true) {l : List A} {r : A} {css : List (List D)} (h : ∀ Ts : List TypeId, Ts.length = css.length → awp sp F.code (St.startP Ts l) (EndsP F r Ts css)) (hcount : nPtr l = css.length) : AFP P gl f l r css := by
  intro pc w vs gs hpc hglob hargs hnd
  unfold mtF at hm
  split at hm
  case h_2 => cases hm
  rename_i fn hfn
  simp only [Bool.and_eq_true, beq_iff_eq] at hm
  obtain ⟨⟨hn, hres⟩, hbody⟩ := hm
  split at hbody
  case h_2 => cases hbody
  rename_i c hc
  refine calls_of_wp hfn hc ?_
  let Ts := gs.map (·.2)
  let B : Nat → Prop := fun g => g ∈ gs.map (·.1)
  obtain ⟨henv0, hbl, hbx0⟩ := PArgs_start (k := 0) (N := nmsP gs) hargs (fun j g T hj => by simp [nmsP, hj])
  have hTl : Ts.length = css.length := by rw [← hcount, ← PArgs_len hargs]; simp [Ts]
  classical
  let M : Gh := ⟨pc, fun g => if B g then none else w.heap[g]?, fun g => g < w.heap.size ∧ ¬ B g, w, gl, nmsP gs⟩
  let own : Nat → Option Ow := fun g => ((gs.map (·.1)).idxOf? g).map .bx
  have hown : ∀ (j : Nat) g T, gs[j]? = some (g, T) → own g = some (.bx j) := by
    intro j g T hj
    have hjl : j < (gs.map (·.1)).length := by simpa using (List.getElem?_eq_some_iff.1 hj).1
    have hgj : (gs.map (·.1))[j]? = some g := by simp [hj]
    have : (gs.map (·.1)).idxOf? g = some j := by
      rw [List.idxOf?_eq_map_finIdxOf?_val]
      rw [Option.map_eq_some_iff]
      refine ⟨⟨j, hjl⟩, ?_, rfl⟩
      rw [List.finIdxOf?_eq_some_iff]
      refine ⟨(List.getElem?_eq_some_iff.1 hgj).2, fun i hi => ?_⟩
      intro e
      have hne := List.pairwise_iff_getElem.1 hnd i.1 j i.2 hjl hi
      exact hne (by rw [(List.getElem?_eq_some_iff.1 hgj).2]; simpa using e)
    simp only [own, this, Option.map_some]
  have hownB : ∀ g o, own g = some o → B g := by
    intro g o ho
    obtain ⟨i, hi, _⟩ := Option.map_eq_some_iff.1 ho
    have : (gs.map (·.1)).idxOf? g ≠ none := by rw [hi]; simp
    exact Classical.not_not.1 fun hb => this (List.idxOf?_eq_none_iff.2 hb)
  have hBlt : ∀ g, B g → g < w.heap.size ∧ ∀ i, pc g i = none := by
    intro g hg
    obtain ⟨⟨g', T⟩, hm', rfl⟩ := List.mem_map.1 hg
    obtain ⟨j, hj, he⟩ := List.getElem_of_mem hm'
    have hjb : j < (pBx Ts l).length := by rw [hbl]; exact hj
    obtain ⟨g2, T2, cs2, k1, k2, ⟨us, fz, k3, _⟩, k4⟩ := hbx0 j _ (List.getElem?_eq_getElem hjb)
    rw [List.getElem?_eq_getElem hj, he] at k1
    simp only [Option.some.injEq, Prod.mk.injEq] at k1; obtain ⟨rfl, rfl⟩ := k1
    exact ⟨lt_of_heap k3, k4⟩
  have hsim : SimO M (nmsP gs) (St.startP Ts l) (fun k => (St.startP Ts l).nx ≤ k) own w := by
    refine ⟨⟨rfl, rfl, rfl⟩, hpc, fun g o e => ?_, fun g hg => ⟨hg.1, ?_⟩, fun g o e => (hBlt g (hownB g o e)).1, fun n b hb => ?_, fun t q e => (by cases e), fun n hn => ⟨?_, rfl⟩, hglob, Nms.Le.refl _, Nat.le_refl _⟩
    · have e : (if B g then none else w.heap[g]?) = some o := e
      split at e
      · cases e
      · exact e
    · cases e : own g with
      | none => rfl
      | some o => exact absurd (hownB g o e) hg.2
    · have hb : (pBx Ts l)[n]? = some b := hb
      obtain ⟨g, T, cs, k1, rfl, ⟨us, fz, k3, k4, k5⟩, k6⟩ := hbx0 n b hb
      refine ⟨g, _, by simp [nmsP, k1], hown n g T k1, k3, ⟨us, fz, rfl, k4, k5.mono (fun _ _ _ e => e) (Nms.nil_le _)⟩, ?_, k6⟩
      show (if B g then none else w.heap[g]?) = none
      rw [if_pos (List.mem_map.2 ⟨(g, T), List.mem_of_getElem? k1, rfl⟩)]
    · have hn : (pBx Ts l).length ≤ n := hn
      rw [hbl] at hn
      simp [nmsP, hn]
  have henv : EnvRep M.pc (nmsP gs) (St.startP Ts l).env (St.startP Ts l).va (vs ++ Array.replicate (fn.ntmps - vs.size) undef) := by
    intro t b hb
    refine ⟨fun _ => ?_, fun hv => absurd trivial hv⟩
    obtain ⟨v, hv, hrep⟩ := henv0 t b hb
    have hlt : t < vs.size := by have := (List.getElem?_eq_some_iff.1 hv).1; simpa using this
    refine ⟨v, ?_, hrep.A⟩
    rw [Array.getElem?_append_left hlt, ← Array.getElem?_toList]
    exact hv
  have hH : Holds M (St.startP Ts l) F.n { tmps := vs ++ Array.replicate (fn.ntmps - vs.size) undef, defers := [] } w :=
    ⟨⟨_, _, hsim, henv⟩, by rw [← hn]; simp; omega, rfl⟩
  refine wp_mono (awp_sound hsp hmix F.code c M (St.startP Ts l) _ w _ hbody rfl hH (h Ts hTl)) ?_
  intro e a' w' ⟨M', S', hle, hH', hk⟩
  have fin : ((match resL S' F.res with | some (p, l) => p ∧ pack l = r | none => False) ∧ outL S' 0 Ts css) → a'.defers = [] ∧ ∃ v, (results fn a'.tmps).run P w' = .ok v w' ∧ ∃ pc', LeftP (· ∈ gs.map (·.1)) pc pc' w w' ∧ RepA pc' Nms.nil v r ∧ PRes pc' w' gs css := by
    intro ⟨hk, hout⟩
    split at hk
    case h_2 => exact hk.elim
    rename_i p lr hr
    obtain ⟨hp, rfl⟩ := hk
    obtain ⟨N, own', hs, he⟩ := hH'.sim
    obtain ⟨us, hus, hlen, hall⟩ := res_rep (P := P) hs he hres hr hp
    obtain ⟨hTc, hget⟩ := outL_get hout
    have hnb : ∀ (j : Nat) g T, gs[j]? = some (g, T) → N.bx j = some g := fun j g T hj => by
      have := hs.nb.bx j g (by rw [hle.nb]; simp [M, nmsP, hj])
      exact this
    have hpcB : ∀ g, B g → ∀ i, M'.pc g i = none := by
      intro g hg i
      obtain ⟨⟨g', T⟩, hm', rfl⟩ := List.mem_map.1 hg
      obtain ⟨j, hj, he'⟩ := List.getElem_of_mem hm'
      have hjg : gs[j]? = some (g', T) := by rw [List.getElem?_eq_getElem hj, he']
      obtain ⟨c, cs, b1, _, _⟩ := hget j T (by simp [Ts, hjg])
      rw [Nat.zero_add] at b1
      obtain ⟨g3, q, q1, q2, q3, q4, q5, q6⟩ := hs.box _ _ b1
      have : g3 = g' := by rw [hnb j g' T hjg] at q1; injection q1 with q1; exact q1.symm
      subst this
      exact q6 i
    have hleft : LeftP (· ∈ gs.map (·.1)) pc M'.pc w w' := by
      refine ⟨hle.pc, hs.pc, fun g hg hnv => ?_, fun g hg i => ?_, ?_, ?_⟩
      · have h1 := hle.im g w.heap[g] (by
          show (if B g then none else w.heap[g]?) = _
          rw [if_neg hnv]; exact Array.getElem?_eq_getElem hg)
        rw [hs.im g _ h1, Array.getElem?_eq_getElem hg]
      · by_cases hB : B g
        · rw [hpcB g hB i, (hBlt g hB).2 i]
        · exact hle.keep g ⟨hg, hB⟩ i
      · rcases Nat.eq_zero_or_pos w.heap.size with h0 | h0
        · omega
        · by_cases hB : B (w.heap.size - 1)
          · obtain ⟨⟨g', T⟩, hm', hg'⟩ := List.mem_map.1 hB
            simp only at hg'
            obtain ⟨j, hj, he'⟩ := List.getElem_of_mem hm'
            have hjg : gs[j]? = some (g', T) := by rw [List.getElem?_eq_getElem hj, he']
            obtain ⟨c, cs, b1, _, _⟩ := hget j T (by simp [Ts, hjg])
            rw [Nat.zero_add] at b1
            obtain ⟨g3, q, q1, q2, _⟩ := hs.box _ _ b1
            have : g3 = g' := by rw [hnb j g' T hjg] at q1; injection q1 with q1; exact q1.symm
            subst this
            have := hs.lt g3 _ q2
            omega
          · have := (hs.fro (w.heap.size - 1) (by rw [hle.fro]; exact ⟨by omega, hB⟩)).1
            omega
      · have := hs.base
        rw [hle.w0] at this
        exact this
    have hpres : ∀ (gs' : List (Nat × TypeId)) (css' : List (List D)) (k : Nat), (∀ j, gs[k + j]? = gs'[j]?) → outL S' k (gs'.map (·.2)) css' → PRes M'.pc w' gs' css' := by
      intro gs'
      induction gs' with
      | nil =>
        intro css' k _ ho
        cases css' with
        | nil => exact trivial
        | cons c css' => exact ho.elim
      | cons q gs' ih =>
        intro css' k hk' ho
        obtain ⟨g, T⟩ := q
        cases css' with
        | nil => exact ho.elim
        | cons cs css' =>
          obtain ⟨h1, h2⟩ := ho
          refine ⟨?_, ih css' (k + 1) (fun j => by have := hk' (j + 1); rw [← Nat.add_assoc, Nat.add_right_comm] at this; simpa using this) h2⟩
          split at h1
          · rename_i T' c hb
            obtain ⟨rfl, hc⟩ := h1
            exact hs.varAt hb hc (hnb k g T' (by have := hk' 0; simpa using this))
          · exact h1.elim
    have hrun : (results fn a'.tmps).run P w' = .ok (if h : us.toArray.size = 1 then us.toArray[0] else .tuple us.toArray) w' := by
      have e : (fn.results.mapM (resOne a'.tmps)).run P w' = .ok us.toArray w' := by
        rw [Array.mapM_eq_mapM_toList]
        simp only [Sem.run_map, hus, Result.andThen]
      rw [results_eq]
      simp only [Sem.run_bind, e, Result.andThen_ok, Sem.run_pure]
    refine ⟨hH'.defers, _, hrun, M'.pc, hleft, ?_, hpres gs css 0 (fun j => by rw [Nat.zero_add]) hout⟩
    match lr, hlen, hall with
    | [b], hlen, hall =>
      obtain ⟨u, hu, hrep⟩ := hall 0 b rfl
      have : us = [u] := by
        match us, hlen, hu with
        | [x], _, hu => simp at hu; simp [hu]
      subst this
      simpa [pack] using hrep.A
    | [], hlen, hall =>
      have : us = [] := List.eq_nil_of_length_eq_zero (by simpa using hlen)
      subst this
      exact ⟨#[], rfl, rfl, fun j b h => by simp at h⟩
    | b1 :: b2 :: l2, hlen, hall =>
      have hne : ¬ us.length = 1 := by simp at hlen; omega
      rw [dif_neg (by simpa using hne)]
      exact ⟨us.toArray, rfl, by simpa using hlen, fun j b hb => let ⟨u, hu, hrep⟩ := hall j b hb; ⟨u, by simpa using hu, hrep⟩⟩
  cases e with
  | normal => exact fin hk
  | ret => exact fin hk
  | exit id => exact hk.elim
  | goto l => exact hk.elim
  | panic ch => exact hk.elim
  | outgrown => exact hk.elim
/-! ### functions that are handed a row first -/
def St.startT (e : TypeId) (sz : Nat) (xs : List (List D)) (l : List A) : St := { env := fun t => (A.one (.sl (.tk 0) sz xs) :: l)[t]?, va := fun _ => True, bx := fun _ => none, tk := fun n => if n = 0 then some (e, sz) else none, nx := 1 }
/-- The row that is given back. -/
def endTK (e : TypeId) (sz : Nat) (ys : List (List D)) (s : Nat) (ex : Ex) (S : St) : Prop :=
  match ex with
  | .x _ => False
  | _ => (match S.env s with | some (.one (.sl (.tk k) sz' zs)) => S.va s ∧ sz' = sz ∧ zs = ys ∧ S.tk k = some (e, sz) | _ => False)
theorem AFT_of {gl : List (Nat × Nat × Value)} (hsp : SpOK P gl sp) (hmix : P.follows .mixedOrders = true) {f : FuncId} {F : Fun} (hm : mtF P f F = true) {e : TypeId} {sz : Nat} {xs ys : List (List D)} {l : List A} {s : Nat} (hF : F.res = [.t s]) (h : awp sp F.code (St.startT e sz xs l) (endTK e sz ys s)) : AFT P gl f e sz xs l ys := by
  intro pc w v vs b hpc hglob hrep hown hargs
  unfold mtF at hm
  split at hm
  case h_2 => cases hm
  rename_i fn hfn
  simp only [Bool.and_eq_true, beq_iff_eq] at hm
  obtain ⟨⟨hn, hres⟩, hbody⟩ := hm
  split at hbody
  case h_2 => cases hbody
  rename_i c hc
  refine calls_of_wp hfn hc ?_
  classical
  let N0 : Nms := ⟨fun _ => none, fun n => if n = 0 then some v else none⟩
  let M : Gh := ⟨pc, fun g => if b = some g then none else w.heap[g]?, fun g => g < w.heap.size ∧ b ≠ some g, w, gl, N0⟩
  let own : Nat → Option Ow := fun g => if b = some g then some (.tk 0) else none
  have hblt : ∀ g, b = some g → g < w.heap.size := by
    intro g hg
    rcases hown with ⟨h1, _⟩ | ⟨g', len, cap, cur, h1, h2, h3, _⟩
    · rw [h1] at hg; cases hg
    · rw [h1] at hg; injection hg with hg; subst hg; exact h3.lt
  have hsim : SimO M N0 (St.startT e sz xs l) (fun k => (St.startT e sz xs l).nx ≤ k) own w := by
    refine ⟨⟨rfl, rfl, rfl⟩, hpc, fun g o h' => ?_, fun g hg => ⟨hg.1, if_neg hg.2⟩, fun g o h' => ?_, fun n b' h' => (by cases h'), fun t q h' => ?_, fun n hn' => ?_, hglob, Nms.Le.refl _, Nat.le_refl _⟩
    · have h' : (if b = some g then none else w.heap[g]?) = some o := h'
      split at h'
      · cases h'
      · exact h'
    · have h' : (if b = some g then some (Ow.tk 0) else none) = some o := h'
      split at h'
      · rename_i hb; exact hblt g hb
      · cases h'
    · have h' : (if t = 0 then some (e, sz) else none) = some q := h'
      split at h'
      · rename_i ht; subst ht
        injection h' with h'; subst h'
        refine ⟨v, rfl, ?_⟩
        rcases hown with ⟨h1, Ad, n0, h2⟩ | ⟨g', len, cap, cur, h1, h2, h3, h4, h5, h6, h7⟩
        · exact .inl ⟨Ad, n0, h2⟩
        · exact .inr ⟨g', len, cap, cur, h2, if_pos h1, h3, h4, h5, h6, if_pos h1, h7⟩
      · cases h'
    · have hn' : 1 ≤ n := hn'
      exact ⟨rfl, if_neg (by omega)⟩
  have henv : EnvRep M.pc N0 (St.startT e sz xs l).env (St.startT e sz xs l).va ((v :: vs).toArray ++ Array.replicate (fn.ntmps - (v :: vs).toArray.size) undef) := by
    intro t a ha
    refine ⟨fun _ => ?_, fun hv => absurd trivial hv⟩
    have ha : (A.one (.sl (.tk 0) sz xs) :: l)[t]? = some a := ha
    have key : ∃ u, (v :: vs)[t]? = some u ∧ RepA M.pc N0 u a := by
      cases t with
      | zero =>
        simp only [List.getElem?_cons_zero, Option.some.injEq] at ha; subst ha
        exact ⟨v, rfl, hrep.retag rfl⟩
      | succ t =>
        obtain ⟨u, hu, hr⟩ := hargs.2 t a (by simpa using ha)
        exact ⟨u, by simpa using hu, (hr.A).mono (fun _ _ _ e => e) (Nms.nil_le _)⟩
    obtain ⟨u, hu, hr⟩ := key
    have hlt : t < (v :: vs).toArray.size := by have := (List.getElem?_eq_some_iff.1 hu).1; simpa using this
    refine ⟨u, ?_, hr⟩
    rw [Array.getElem?_append_left hlt, ← Array.getElem?_toList]
    exact hu
  have hH : Holds M (St.startT e sz xs l) F.n { tmps := (v :: vs).toArray ++ Array.replicate (fn.ntmps - (v :: vs).toArray.size) undef, defers := [] } w :=
    ⟨⟨_, _, hsim, henv⟩, by rw [← hn]; simp; omega, rfl⟩
  refine wp_mono (awp_sound hsp hmix F.code c M (St.startT e sz xs l) _ w _ hbody rfl hH h) ?_
  intro ex a' w' ⟨M', S', hle, hH', hk⟩
  have fin : (match S'.env s with | some (.one (.sl (.tk k) sz' zs)) => S'.va s ∧ sz' = sz ∧ zs = ys ∧ S'.tk k = some (e, sz) | _ => False) → a'.defers = [] ∧ ∃ v', (results fn a'.tmps).run P w' = .ok v' w' ∧ ∃ pc' b', LeftT b pc pc' w w' ∧ Rep pc' Nms.nil v' (.sl .no sz ys) ∧ OwnRow pc' w' e sz v' b' ∧ (∀ g, b' = some g → b = some g ∨ w.heap.size ≤ g) := by
    intro hk
    split at hk
    case h_2 => exact hk.elim
    rename_i k sz' zs henv'
    obtain ⟨hva, rfl, rfl, htk⟩ := hk
    obtain ⟨N, own', hs, he⟩ := hH'.sim
    obtain ⟨u, hu, hr⟩ := (he s _ henv').1 hva
    have hr : Rep M'.pc N u (.sl (.tk k) sz' zs) := hr
    obtain ⟨v1, t1, t2⟩ := hs.tok k _ htk
    have huv : u = v1 := by
      obtain ⟨Ad, cap, g, off, u', hv, _, _, _, _, _, _, ht⟩ := hr.sl_inv
      have ht' : N.tk k = some (.slice Ad zs.length cap) := ht
      rw [t1] at ht'; injection ht' with ht'; rw [hv, ht']
    subst huv
    have hleft : LeftT b pc M'.pc w w' := by
      refine ⟨hle.pc, hs.pc, fun g hg hnb => ?_, fun g hg hnb i => hle.keep g ⟨hg, hnb⟩ i, ?_, ?_⟩
      · have h1 := hle.im g w.heap[g] (by
          show (if b = some g then none else w.heap[g]?) = _
          rw [if_neg hnb]; exact Array.getElem?_eq_getElem hg)
        rw [hs.im g _ h1, Array.getElem?_eq_getElem hg]
      · have := hs.big
        rw [hle.w0] at this
        exact this
      · have := hs.base
        rw [hle.w0] at this
        exact this
    have hrun : (results fn a'.tmps).run P w' = .ok u w' := by
      have hrs : fn.results.toList = [.tmp s] := by
        rw [hF] at hres
        generalize fn.results.toList = rs at hres
        match rs, hres with
        | [.tmp t], hres => simp only [mtRes, Bool.and_eq_true, beq_iff_eq] at hres; rw [hres.1]
        | [.cell x T], hres => simp [mtRes] at hres
        | [], hres => simp [mtRes] at hres
        | .tmp t :: r2 :: r3, hres => simp [mtRes] at hres
        | .cell x T :: r2 :: r3, hres => simp [mtRes] at hres
      have e : (fn.results.mapM (resOne a'.tmps)).run P w' = .ok #[u] w' := by
        rw [Array.mapM_eq_mapM_toList, hrs]
        simp [resOne, hu]
      rw [results_eq]
      simp only [Sem.run_bind, e, Result.andThen_ok, Sem.run_pure]
      rfl
    rcases t2 with ⟨Ad, n0, rfl⟩ | ⟨g, len, cap, cur, rfl, k3, k4, k5, k6, k7, k8, k9⟩
    · exact ⟨hH'.defers, _, hrun, M'.pc, none, hleft, hr.clo rfl, .inl ⟨rfl, Ad, n0, rfl⟩, fun g hg => by cases hg⟩
    · refine ⟨hH'.defers, _, hrun, M'.pc, some g, hleft, hr.clo rfl, .inr ⟨g, len, cap, cur, rfl, rfl, k4, k5, k6, k7, k9⟩, fun g' hg' => ?_⟩
      injection hg' with hg'; subst hg'
      by_cases hb : b = some g
      · exact .inl hb
      · refine .inr (Nat.le_of_not_lt fun hlt => ?_)
        have := (hs.fro g (by rw [hle.fro]; exact ⟨hlt, hb⟩)).2
        rw [k3] at this; cases this
  cases ex with
  | normal => exact fin hk
  | ret => exact fin hk
  | exit id => exact hk.elim
  | goto l => exact hk.elim
  | panic ch => exact hk.elim
  | outgrown => exact hk.elim
end
end Go.Proofs.YtbhingdlclfipaaDoor.Ab
