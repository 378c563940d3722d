/- An abstract calculus over pure data, part 16: code, functions. -/
import Derived.Test.YtmhhpcjiejpcfaaDoorAb15
namespace Go.Proofs.YtmhhpcjiejpcfaaDoor.Ab
open Go Go.RowKit
set_option linter.unusedVariables false
set_option linter.unusedSimpArgs false

/-- Code. -/
inductive C where
  | skip
  | reg (draw : Bool) (rs : List R)
  | seq (a b : C)
  | cond (x : X) (t e : C)
  | block (id : Nat) (c : C)
  | loop (c : C)
  | exit (id : Nat)
  | ret
/-- How code is left. -/
inductive Ex where
  | n | x (id : Nat) | r

def mtC (P : Program) (n : Nat) : Code → C → Bool
  | .skip, .skip => true
  | .region _ ops d, .reg d' rs => d == d' && mtRs P ops n ops.toList rs && (if d then afs ops.toList rs && orderOK rs else allBar rs)
  | .seq a b, .seq a' b' => mtC P n a a' && mtC P n b b'
  | .cond x t e, .cond x' t' e' => mtX x x' && mtC P n t t' && mtC P n e e'
  | .block id c, .block id' c' => id == id' && mtC P n c c'
  | .loop c, .loop c' => mtC P n c c'
  | .exit id, .exit id' => id == id'
  | .ret, .ret => true
  | _, _ => false

def awp (sp : Sp) : C → St → (Ex → St → Prop) → Prop
  | .skip, S, K => K .n S
  | .reg _ rs, S, K => match rrun sp S.nx 0 S.nx [] rs S with | some (p, S') => p ∧ K .n { S' with nx := S.nx + rs.length } | none => False
  | .seq a b, S, K => awp sp a S fun e S' => match e with | .n => awp sp b S' K | .x i => K (.x i) S' | .r => K .r S'
  | .cond x t e, S, K => match x.val S.env with | some (.one (.v (.bool b))) => allV S.va x.slot ∧ (b = true → awp sp t S K) ∧ (b = false → awp sp e S K) | _ => False
  | .block id c, S, K => awp sp c S fun e S' => match e with | .n => K .n S' | .x i => if i = id then K .n S' else K (.x i) S' | .r => K .r S'
  | .loop c, S, K => ∃ I : Nat → St → Prop, (∃ k, I k S) ∧ ∀ k S', I k S' → awp sp c S' fun e S'' => match e with | .n => ∃ m, m < k ∧ I m S'' | .x i => K (.x i) S'' | .r => K .r S''
  | .exit id, S, K => K (.x id) S
  | .ret, S, K => K .r S

def KE (K : Ex → St → Prop) : Exit → St → Prop
  | .normal, S => K .n S
  | .exit id, S => K (.x id) S
  | .ret, S => K .r S
  | _, _ => False

section
variable {P : Program} {sp : Sp} {n : Nat}

/-- What is shown behind code. -/
def Post (M : Gh) (n : Nat) (K : Ex → St → Prop) (e : Exit) (a : Act) (w : World) : Prop := ∃ M' S', M.Le M' ∧ Holds M' S' n a w ∧ KE K e S'
theorem reg_sound {gl : List (Nat × Nat × Value)} (hsp : SpOK P gl sp) (hmix : P.follows .mixedOrders = true) {id : Nat} {ops : Array Oper} {d : Bool} {rs : List R} {M : Gh} {S : St} {a : Act} {w : World} {K : Ex → St → Prop} (hm : mtC P n (.region id ops d) (.reg d rs) = true) (hgl : M.gl = gl) (h : Holds M S n a w) (hk : awp sp (.reg d rs) S K) :
    (Code.region id ops d).wp P (Post M n K) a w := by
  simp only [mtC, BEq.rfl, Bool.true_and, Bool.and_eq_true] at hm
  obtain ⟨hm, hd⟩ := hm
  simp only [awp] at hk
  split at hk
  case h_2 => exact hk.elim
  rename_i p S' hr
  obtain ⟨hp, hk⟩ := hk
  obtain ⟨N, own, hsim, henv⟩ := h.sim
  have hlen := (mtRs_spec hm).1
  have hsize : ops.size = rs.length := by simpa using hlen
  cases d with
  | false =>
    simp only [Bool.false_eq_true, if_false] at hd
    refine wp_region ?_
    have := ops_sound hsp (ops := ops) (n := n) (Q := Post M n K) ops.toList rs 0 S.nx [] S S' M a w p hgl (fun i => by simp) hm hd ⟨N, own, by simpa using hsim, henv⟩ h.size h.defers hr hp
      (fun a' w' M' hle ⟨N', own', hs, he⟩ hn hdf => ⟨M', { S' with nx := S.nx + rs.length }, hle, ⟨⟨N', own', (hs.nx _).later (fun k (hk : S.nx + rs.length ≤ k) => (by omega)), he⟩, hn, hdf⟩, hk⟩)
    rw [show List.range ops.size = List.range' 0 ops.toList.length by simp [List.range_eq_range']]
    exact this
  | true =>
    simp only [if_true, Bool.and_eq_true] at hd
    refine wp_region_any hmix ?_
    obtain ⟨T, L, t0, tn, l0, hst, hcr⟩ := snaps rs 0 S.nx [] S S' p hr hp
    have hnone : ∀ k, S.nx ≤ k → S.bx k = none ∧ S.tk k = none := fun k hk => by
      obtain ⟨f1, f2⟩ := hsim.fresh k hk
      refine ⟨?_, ?_⟩
      · cases hb : S.bx k with
        | none => rfl
        | some b => obtain ⟨g, o, h1, _⟩ := hsim.box k b hb; rw [f1] at h1; cases h1
      · cases hb : S.tk k with
        | none => rfl
        | some q => obtain ⟨v, h1, _⟩ := hsim.tok k q hb; rw [f2] at h1; cases h1
    have hS : Snaps sp S.nx rs T L := ⟨l0, fun i r hr' => by have := hst i r hr'; simpa using this, fun i r hr' k hk rk hrk hlt hb b h1 h2 => apart_mem (hcr i r hr') k hk b (by simp [hlt, tcB, hrk, hb, h1]) h2, fun k hk => by rw [t0]; exact (hnone k hk).1, fun k hk => by rw [t0]; exact (hnone k hk).2⟩
    have hempty : ∀ k, (Array.replicate ops.size false).getD k false = false := fun k => by
      simp only [Array.getD_eq_getD_getElem?, Array.getElem?_replicate]
      split <;> rfl
    refine any_sound (by rw [hgl]; exact hsp) hm hd.1 (orderOK_spec hd.2) hS (M0 := M) (Q := Post M n K) (fun a' w' M' hle ⟨N', own', hs, he⟩ hn hdf => ?_) ops.size (Array.replicate ops.size false) a _ M N own (by simp [hsize]) (by simp) ?_
    · rw [tn] at hs he
      exact ⟨M', { S' with nx := S.nx + rs.length }, hle, ⟨⟨N', own', hs.nx _, he⟩, hn, hdf⟩, hk⟩
    · have hbl : bl rs (fun k => (Array.replicate ops.size false).getD k false) = 0 := by
        have : bl rs (fun k => (Array.replicate ops.size false).getD k false) = lastL (fun _ => false) rs.length := lastL_congr _ fun k _ => by simp only [hempty k, Bool.false_and]
        rw [this]
        generalize rs.length = m
        induction m with
        | zero => rfl
        | succ m ih => simpa [lastL] using ih
      have hlw : ∀ s, lw rs (fun k => (Array.replicate ops.size false).getD k false) s = 0 := fun s => by
        have : lw rs (fun k => (Array.replicate ops.size false).getD k false) s = lastL (fun _ => false) rs.length := lastL_congr _ fun k _ => by simp only [hempty k, Bool.false_and]
        rw [this]
        generalize rs.length = m
        induction m with
        | zero => rfl
        | succ m ih => simpa [lastL] using ih
      have hlb : ∀ q, lwb (barOf rs) (Wr rs T) rs.length (fun k => (Array.replicate ops.size false).getD k false) q = 0 := fun q => by
        have : lwb (barOf rs) (Wr rs T) rs.length (fun k => (Array.replicate ops.size false).getD k false) q = lastL (fun _ => false) rs.length := lastL_congr _ fun k _ => by simp only [hempty k, Bool.false_and]
        rw [this]
        generalize rs.length = m
        induction m with
        | zero => rfl
        | succ m ih => simpa [lastL] using ih
      have hw : SimO M N S (fun k => S.nx ≤ k) own { w with drawn := w.drawn + 1 } := hsim.drew
      refine ⟨Gh.Le.refl _, fun i r _ hl => ?_, fun i hl => ?_, (hw.sub (fun k b hb => ?_) (fun k b hb => ?_)).later fun k hk => hk.1, fun s => ?_, h.size, h.defers⟩
      · rw [hempty] at hl; cases hl
      · rw [hempty] at hl; cases hl
      · have hb : sx (fun i => (T i).bx) S.nx (bl rs (fun k => (Array.replicate ops.size false).getD k false)) (lwb (barOf rs) (Wr rs T) rs.length (fun k => (Array.replicate ops.size false).getD k false)) (fun k => (Array.replicate ops.size false).getD k false) k = some b := hb
        rw [hbl] at hb
        unfold sx at hb
        split at hb
        · simp only [hlb, t0] at hb; exact hb
        · simp only [hempty, Bool.false_eq_true, if_false] at hb; cases hb
      · have hb : sx (fun i => (T i).tk) S.nx (bl rs (fun k => (Array.replicate ops.size false).getD k false)) (fun _ => bl rs (fun k => (Array.replicate ops.size false).getD k false)) (fun k => (Array.replicate ops.size false).getD k false) k = some b := hb
        rw [hbl] at hb
        unfold sx at hb
        split at hb
        · simp only [t0] at hb; exact hb
        · simp only [hempty, Bool.false_eq_true, if_false] at hb; cases hb
      · rw [hlw s, t0]
        exact fun b hb => henv s b hb

/-- Rounds that come to an end. -/
theorem wp_loop_nat {c : Code} {Q : Exit → Act → World → Prop} {a : Act} {w : World} (I : Nat → Act → World → Prop) (h0 : ∃ k, I k a w) (round : ∀ k a w, I k a w → c.wp P (Exit.then (fun a' w' => ∃ m, m < k ∧ I m a' w') Q) a w) : (Code.loop c).wp P Q a w := by
  classical
  have least : ∀ a w, (∃ k, I k a w) → ∃ k, I k a w ∧ ∀ m, I m a w → k ≤ m := by
    intro a w ⟨k, hk⟩
    induction k using Nat.strongRecOn with
    | _ k ih =>
      by_cases h : ∃ m, m < k ∧ I m a w
      · obtain ⟨m, hm, hI⟩ := h; exact ih m hm hI
      · exact ⟨k, hk, fun m hm => Nat.le_of_not_lt fun hlt => h ⟨m, hlt, hm⟩⟩
  refine wp_loop (fun a w => ∃ k, I k a w) (fun a w => if h : ∃ k, I k a w then (least a w h).choose else 0) h0 ?_
  intro a w h
  obtain ⟨h1, h2⟩ := (least a w h).choose_spec
  refine wp_mono (round _ a w h1) ?_
  intro e a' w' he
  cases e <;> first | exact he | skip
  obtain ⟨m, hm, hI⟩ := he
  have hex : ∃ k, I k a' w' := ⟨m, hI⟩
  refine ⟨hex, ?_⟩
  simp only [dif_pos h, dif_pos hex]
  exact Nat.lt_of_le_of_lt ((least a' w' hex).choose_spec.2 m hI) hm

theorem awp_sound {gl : List (Nat × Nat × Value)} (hsp : SpOK P gl sp) (hmix : P.follows .mixedOrders = true) : ∀ (ir : C) (c : Code) (M : Gh) (S : St) (a : Act) (w : World) (K : Ex → St → Prop), mtC P n c ir = true → M.gl = gl → Holds M S n a w → awp sp ir S K → c.wp P (Post M n K) a w := by
  intro ir
  induction ir with
  | skip =>
    intro c M S a w K hm hgl h hk
    cases c <;> simp [mtC] at hm
    exact wp_skip ⟨M, S, Gh.Le.refl _, h, hk⟩
  | reg d rs =>
    intro c M S a w K hm hgl h hk
    cases c <;> (try simp [mtC] at hm)
    rename_i id ops d'
    have : d' = d := hm.1.1
    subst this
    exact reg_sound hsp hmix (by simp [mtC, hm]) hgl h hk
  | seq x y ihx ihy =>
    intro c M S a w K hm hgl h hk
    cases c <;> (try simp [mtC] at hm)
    refine wp_seq (wp_mono (ihx _ M S a w _ hm.1 hgl h hk) ?_)
    intro e a' w' he
    obtain ⟨M1, S1, hle, h1, hk1⟩ := he
    cases e with
    | normal =>
      refine wp_mono (ihy _ M1 S1 a' w' K hm.2 (hle.gl.trans hgl) h1 hk1) ?_
      intro e a2 w2 ⟨M2, S2, hle2, h2, hk2⟩
      exact ⟨M2, S2, hle.trans hle2, h2, hk2⟩
    | exit id => exact ⟨M1, S1, hle, h1, hk1⟩
    | ret => exact ⟨M1, S1, hle, h1, hk1⟩
    | goto l => exact hk1.elim
    | panic ch => exact hk1.elim
    | outgrown => exact hk1.elim
  | cond x t e iht ihe =>
    intro c M S a w K hm hgl h hk
    cases c <;> (try simp [mtC] at hm)
    rename_i y t' e'
    simp only [awp] at hk
    split at hk
    · rename_i b hb
      obtain ⟨hv, hk1, hk2⟩ := hk
      obtain ⟨N, own, hsim, henv⟩ := h.sim
      have hc := (mtX_rep hm.1.1 hb (allV_mem hv) henv).B.v_inv
      exact wp_cond_split hc (fun hb => iht _ M S a w K hm.1.2 hgl h (hk1 hb)) (fun hb => ihe _ M S a w K hm.2 hgl h (hk2 hb))
    · exact hk.elim
  | block id x ih =>
    intro c M S a w K hm hgl h hk
    cases c <;> (try simp [mtC] at hm)
    rename_i id' x'
    obtain ⟨rfl, hm⟩ := hm
    refine wp_block (wp_mono (ih _ M S a w _ hm hgl h hk) ?_)
    intro e a' w' he
    obtain ⟨M1, S1, hle, h1, hk1⟩ := he
    cases e with
    | normal => exact ⟨M1, S1, hle, h1, hk1⟩
    | exit i =>
      show if i = id' then _ else _
      have hk1 : if i = id' then K .n S1 else K (.x i) S1 := hk1
      split
      · rename_i hi; rw [if_pos hi] at hk1; exact ⟨M1, S1, hle, h1, hk1⟩
      · rename_i hi; rw [if_neg hi] at hk1; exact ⟨M1, S1, hle, h1, hk1⟩
    | ret => exact ⟨M1, S1, hle, h1, hk1⟩
    | goto l => exact hk1.elim
    | panic ch => exact hk1.elim
    | outgrown => exact hk1.elim
  | loop x ih =>
    intro c M S a w K hm hgl h hk
    cases c <;> (try simp [mtC] at hm)
    rename_i x'
    obtain ⟨I, ⟨k0, h0⟩, hround⟩ := hk
    refine wp_loop_nat (fun k a w => ∃ M' S', M.Le M' ∧ Holds M' S' n a w ∧ I k S') ⟨k0, M, S, Gh.Le.refl _, h, h0⟩ ?_
    intro k a w ⟨M1, S1, hle, h1, hI⟩
    refine wp_mono (ih _ M1 S1 a w _ hm (hle.gl.trans hgl) h1 (hround k S1 hI)) ?_
    intro e a' w' ⟨M2, S2, hle2, h2, hk2⟩
    cases e with
    | normal =>
      obtain ⟨m, hm, hI2⟩ := hk2
      exact ⟨m, hm, M2, S2, hle.trans hle2, h2, hI2⟩
    | exit i => exact ⟨M2, S2, hle.trans hle2, h2, hk2⟩
    | ret => exact ⟨M2, S2, hle.trans hle2, h2, hk2⟩
    | goto l => exact hk2.elim
    | panic ch => exact hk2.elim
    | outgrown => exact hk2.elim
  | exit id =>
    intro c M S a w K hm hgl h hk
    cases c <;> (try simp [mtC] at hm)
    subst hm
    exact wp_exit ⟨M, S, Gh.Le.refl _, h, hk⟩
  | ret =>
    intro c M S a w K hm hgl h hk
    cases c <;> (try simp [mtC] at hm)
    exact wp_ret ⟨M, S, Gh.Le.refl _, h, hk⟩
end

/-! ### functions -/
/-- Where a result lies: in a slot; in memory. -/
inductive Res where
  | t (s : Nat)
  | c (s n : Nat) (ag : Bool)
structure Fun where
  n : Nat
  code : C
  res : List Res
def mtRes (P : Program) : List ResultVar → List Res → Bool
  | [], [] => true
  | .tmp t :: r, .t s :: q => t == s && mtRes P r q
  | .cell x T :: r, .c s n ag :: q => x == s && cellB P T n ag && mtRes P r q
  | _, _ => false
def mtF (P : Program) (f : FuncId) (F : Fun) : Bool :=
  match P.funcs[f]? with
  | some fn => fn.ntmps == F.n && mtRes P fn.results.toList F.res && (match fn.body with | some c => mtC P F.n c F.code | none => false)
  | none => false
def A.clo : A → Option A
  | .one d => d.clo.map .one
  | .agg cs => (cloL cs).map .agg
  | .tup _ => none
theorem RepA.clo {pc : Nat → Nat → Option Value} {N : Nms} {v : Value} {a a' : A} (h : RepA pc N v a) (e : a.clo = some a') : RepB pc Nms.nil v a' := by
  cases a with
  | one d =>
    obtain ⟨d', hd, rfl⟩ := Option.map_eq_some_iff.1 e
    exact Rep.clo h hd
  | agg cs =>
    obtain ⟨cs', hc, rfl⟩ := Option.map_eq_some_iff.1 e
    obtain ⟨us, rfl, h⟩ := h
    exact ⟨us, rfl, h.clo hc⟩
  | tup vs => cases e
def res1 (S : St) : Res → Option (Prop × A)
  | .t s => (S.env s).bind fun a => a.clo.map fun a' => (S.va s, a')
  | .c s n ag => match S.env s with
    | some (.one (.ptr b off)) => (match S.bx b with | some (.cells _ cs) => (cellsAt cs off n ag).bind fun a => a.clo.map fun a' => (S.va s ∧ off + n ≤ cs.length, a') | _ => none)
    | _ => none
def resL (S : St) : List Res → Option (Prop × List A)
  | [] => some (True, [])
  | r :: rs => match res1 S r, resL S rs with | some (p, a), some (q, l) => some (p ∧ q, a :: l) | _, _ => none
def pack : List A → A
  | [a] => a
  | l => .tup l
def St.start (l : List A) : St := { env := fun t => l[t]?, va := fun _ => True, bx := fun _ => none, tk := fun _ => none, nx := 0 }
/-- What is asked of a function's result. -/
def Ends (F : Fun) (r : A) (e : Ex) (S : St) : Prop :=
  match e with
  | .x _ => False
  | _ => match resL S F.res with | some (p, l) => p ∧ pack l = r | none => False

section
variable {P : Program} {sp : Sp} {n : Nat}
def resOne (tmps : Array Value) : ResultVar → Sem Value
  | .tmp t => pure (tmps.getD t undef)
  | .cell a t => do loadVar t (← asAddr (tmps.getD a undef))
theorem results_eq (fn : Func) (tmps : Array Value) : results fn tmps = (do let vs ← fn.results.mapM (resOne tmps); pure (if h : vs.size = 1 then vs[0] else .tuple vs)) := by
  have : (resOne tmps) = (fun | .tmp t => pure (tmps.getD t undef) | .cell a t => do loadVar t (← asAddr (tmps.getD a undef)) : ResultVar → Sem Value) := by funext v; cases v <;> rfl
  rw [this]
  rfl
theorem res_rep {M : Gh} {S : St} {a : Act} {w : World} {N : Nms} {own : Nat → Option Ow} {fr : Nat → Prop} (h : SimO M N S fr own w) (he : EnvRep M.pc N S.env S.va a.tmps) : ∀ {vs : List ResultVar} {rs : List Res} {p : Prop} {l : List A}, mtRes P vs rs = true → resL S rs = some (p, l) → p →
    ∃ us : List Value, (vs.mapM (resOne a.tmps)).run P w = .ok us w ∧ us.length = l.length ∧ ∀ (j : Nat) b, l[j]? = some b → ∃ u, us[j]? = some u ∧ RepB M.pc Nms.nil u b
  | [], [], p, l, _, hr, _ => by
    simp only [resL, Option.some.injEq, Prod.mk.injEq] at hr
    obtain ⟨_, rfl⟩ := hr
    exact ⟨[], by simp, rfl, fun j b h => by simp at h⟩
  | [], _ :: _, _, _, hm, _, _ => by simp [mtRes] at hm
  | v :: vs, [], _, _, hm, _, _ => by cases v <;> simp [mtRes] at hm
  | v :: vs, r :: rs, p, l, hm, hr, hp => by
    simp only [resL] at hr
    split at hr
    case h_2 => cases hr
    rename_i p1 b q l' h1 h2
    simp only [Option.some.injEq, Prod.mk.injEq] at hr
    obtain ⟨rfl, rfl⟩ := hr
    have key : mtRes P vs rs = true ∧ ∃ u, (resOne a.tmps v).run P w = .ok u w ∧ RepB M.pc Nms.nil u b := by
      cases v with
      | tmp t =>
        cases r with
        | t s =>
          simp only [mtRes, Bool.and_eq_true, beq_iff_eq] at hm
          obtain ⟨rfl, hm⟩ := hm
          obtain ⟨a1, ha1, h1⟩ := bind_some h1
          obtain ⟨a2, ha2, h1⟩ := map_some h1
          simp only [Prod.mk.injEq] at h1
          obtain ⟨rfl, rfl⟩ := h1
          obtain ⟨u, hu, hrep⟩ := (he t a1 ha1).1 hp.1
          exact ⟨hm, u, by simp [resOne, hu], hrep.clo ha2⟩
        | c s n ag => simp [mtRes] at hm
      | cell x T =>
        cases r with
        | t s => simp [mtRes] at hm
        | c s n ag =>
          simp only [mtRes, Bool.and_eq_true, beq_iff_eq] at hm
          obtain ⟨⟨rfl, hc⟩, hm⟩ := hm
          obtain ⟨d, c1, c2, c3, c4⟩ := cellB_spec hc
          simp only [res1] at h1
          split at h1
          · rename_i bb off hb
            split at h1
            · rename_i T' cs hbx
              obtain ⟨a1, ha1, h1⟩ := bind_some h1
              obtain ⟨a2, ha2, h1⟩ := map_some h1
              simp only [Prod.mk.injEq] at h1
              obtain ⟨rfl, rfl⟩ := h1
              obtain ⟨⟨hv, hlen⟩, _⟩ := hp
              obtain ⟨u, hu, hrep⟩ := (he x _ hb).1 hv
              obtain ⟨g, hg, rfl⟩ := (RepA.B hrep).ptr_inv
              obtain ⟨us, fz, hus, _, hrl⟩ := h.cells hbx hg
              have hln : (((us.toList.take cs.length).drop off).take n).length = n := by have := hrl.1; simp at this ⊢; omega
              have hrun := run_loadVar_list (P := P) (w := w) c1 (((us.toList.take cs.length).drop off).take n) (by rw [hln]; exact c2) ag c3 (by rw [hln]; exact c4) (g := g) (o := off) (fun j u hj => by
                rw [cell_of_heap hus, ← hj, List.getElem?_take, List.getElem?_drop, List.getElem?_take]
                rw [List.getElem?_take, List.getElem?_drop, List.getElem?_take] at hj
                split
                · rename_i h1
                  rw [if_pos h1] at hj
                  split
                  · simp
                  · rename_i h2; rw [if_neg h2] at hj; cases hj
                · rename_i hge
                  rw [if_neg hge] at hj; cases hj)
              refine ⟨hm, _, ?_, (repA_cellsAt hrl ha1 c4 hlen).clo ha2⟩
              simp [resOne, hu, asAddr, hrun]
            · cases h1
          · cases h1
    obtain ⟨hm', u, hu, hrep⟩ := key
    obtain ⟨us, hus, hl, hall⟩ := res_rep h he hm' h2 hp.2
    refine ⟨u :: us, ?_, by simp [hl], fun j b' hb' => ?_⟩
    · rw [List.mapM_cons]
      simp only [Sem.run_bind, hu, Result.andThen_ok, hus, Sem.run_pure]
    · cases j with
      | zero => simp only [List.getElem?_cons_zero, Option.some.injEq] at hb'; subst hb'; exact ⟨u, rfl, hrep⟩
      | succ j => simpa using hall j b' (by simpa using hb')

/-- A function's contract. -/
theorem AF_of {gl : List (Nat × Nat × Value)} (hsp : SpOK P gl sp) (hmix : P.follows .mixedOrders = true) {f : FuncId} {F : Fun} (hm : mtF P f F = true) {l : List A} {r : A} (h : awp sp F.code (St.start l) (Ends F r)) : AF P gl f l r := by
  intro pc w vs hpc hglob hargs
  unfold mtF at hm
  split at hm
  case h_2 => cases hm
  rename_i fn hfn
  simp only [Bool.and_eq_true, beq_iff_eq] at hm
  obtain ⟨⟨hn, hres⟩, hbody⟩ := hm
  split at hbody
  case h_2 => cases hbody
  rename_i c hc
  refine calls_of_wp hfn hc ?_
  let M : Gh := ⟨pc, fun g => w.heap[g]?, fun g => g < w.heap.size, w, gl⟩
  have hsim : SimO M Nms.nil (St.start l) (fun k => (St.start l).nx ≤ k) (fun _ => none) w :=
    ⟨⟨rfl, rfl, rfl⟩, hpc, fun g o h => h, fun g hg => ⟨hg, rfl⟩, fun g o h => (by cases h), fun n b h => (by cases h), fun t q h => (by cases h), fun n _ => ⟨rfl, rfl⟩, hglob⟩
  have henv : EnvRep M.pc Nms.nil (St.start l).env (St.start l).va (vs ++ Array.replicate (fn.ntmps - vs.size) undef) := by
    intro t b hb
    refine ⟨fun _ => ?_, fun hv => absurd trivial hv⟩
    obtain ⟨v, hv, hrep⟩ := hargs.2 t b hb
    have hlt : t < vs.size := by have := (List.getElem?_eq_some_iff.1 hv).1; simpa using this
    refine ⟨v, ?_, hrep.A⟩
    rw [Array.getElem?_append_left hlt, ← Array.getElem?_toList]
    exact hv
  have hH : Holds M (St.start l) F.n { tmps := vs ++ Array.replicate (fn.ntmps - vs.size) undef, defers := [] } w :=
    ⟨⟨_, _, hsim, henv⟩, by rw [← hn]; simp; omega, rfl⟩
  refine wp_mono (awp_sound hsp hmix F.code c M (St.start l) _ w _ hbody rfl hH h) ?_
  intro e a' w' ⟨M', S', hle, hH', hk⟩
  have fin : (match resL S' F.res with | some (p, l) => p ∧ pack l = r | none => False) → a'.defers = [] ∧ ∃ v, (results fn a'.tmps).run P w' = .ok v w' ∧ ∃ pc', Left pc pc' w w' ∧ RepA pc' Nms.nil v r := by
    intro hk
    split at hk
    case h_2 => exact hk.elim
    rename_i p lr hr
    obtain ⟨hp, rfl⟩ := hk
    obtain ⟨N, own, hs, he⟩ := hH'.sim
    obtain ⟨us, hus, hlen, hall⟩ := res_rep (P := P) hs he hres hr hp
    have hleft : Left pc M'.pc w w' := by
      refine ⟨hle.pc, hs.pc, fun g hg => ?_, fun g hg i => hle.keep g hg i, ?_, ?_⟩
      · have h1 := hle.im g w.heap[g] (by show w.heap[g]? = _; exact Array.getElem?_eq_getElem hg)
        rw [hs.im g _ h1, Array.getElem?_eq_getElem hg]
      · rcases Nat.eq_zero_or_pos w.heap.size with h0 | h0
        · omega
        · have := (hs.fro (w.heap.size - 1) (by rw [hle.fro]; show w.heap.size - 1 < w.heap.size; omega)).1
          omega
      · have := hs.base
        rw [hle.w0] at this
        exact this
    have hrun : (results fn a'.tmps).run P w' = .ok (if h : us.toArray.size = 1 then us.toArray[0] else .tuple us.toArray) w' := by
      have e : (fn.results.mapM (resOne a'.tmps)).run P w' = .ok us.toArray w' := by
        rw [Array.mapM_eq_mapM_toList]
        simp only [Sem.run_map, hus, Result.andThen]
      rw [results_eq]
      simp only [Sem.run_bind, e, Result.andThen_ok, Sem.run_pure]
    refine ⟨hH'.defers, _, hrun, M'.pc, hleft, ?_⟩
    match lr, hlen, hall with
    | [b], hlen, hall =>
      obtain ⟨u, hu, hrep⟩ := hall 0 b rfl
      have : us = [u] := by
        match us, hlen, hu with
        | [x], _, hu => simp at hu; simp [hu]
      subst this
      simpa [pack] using hrep.A
    | [], hlen, hall =>
      have : us = [] := List.eq_nil_of_length_eq_zero (by simpa using hlen)
      subst this
      exact ⟨#[], rfl, rfl, fun j b h => by simp at h⟩
    | b1 :: b2 :: l2, hlen, hall =>
      have hne : ¬ us.length = 1 := by simp at hlen; omega
      rw [dif_neg (by simpa using hne)]
      exact ⟨us.toArray, rfl, by simpa using hlen, fun j b hb => let ⟨u, hu, hrep⟩ := hall j b hb; ⟨u, by simpa using hu, hrep⟩⟩
  cases e with
  | normal => exact fin hk
  | ret => exact fin hk
  | exit id => exact hk.elim
  | goto l => exact hk.elim
  | panic ch => exact hk.elim
  | outgrown => exact hk.elim
end
end Go.Proofs.YtmhhpcjiejpcfaaDoor.Ab
