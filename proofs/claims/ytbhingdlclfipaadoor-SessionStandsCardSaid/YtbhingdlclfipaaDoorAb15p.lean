/- An abstract calculus over pure data, part 15p: calls that are handed variables (in order). -/
import Derived.Test.YtbhingdlclfipaaDoorAb15k
namespace Go.Proofs.YtbhingdlclfipaaDoor.Ab
open Go Go.RowKit
set_option linter.unusedVariables false
set_option linter.unusedSimpArgs false

/-- An operation of a region in order: as ever; a call that is handed variables. -/
inductive RP where
  | r (r : R)
  | p (dst : Option Nat) (f : FuncId) (xs : List X)
  | t (dst : Option Nat) (f : FuncId) (e : TypeId) (x : X) (xs : List X)
  | k (dst : Option Nat) (q : K)
/-- What a call is handed, and the variables among it. -/
def pargs (env : Nat → Option A) (bx : Nat → Option Box) : List X → Option (List A × List Nat)
  | [] => some ([], [])
  | x :: r => match x.val env with
    | some (.one (.ptr n 0)) => match bx n with
      | some (.cells _ cs) => (cloL cs).bind fun c => (pargs env bx r).map fun (l, ns) => (.tup [.agg c] :: l, n :: ns)
      | _ => none
    | some a => a.clf.bind fun c => (pargs env bx r).map fun (l, ns) => (c :: l, ns)
    | none => none
/-- Variables that are written. -/
def wrL (bx : Nat → Option Box) : List Nat → List A → Option (Nat → Option Box)
  | [], [] => some bx
  | n :: ns, .agg cs :: as => match bx n with
    | some (.cells T _) => wrL (upd bx n (some (.cells T cs))) ns as
    | _ => none
  | _, _ => none
def pstep (sp : Sp) (S : St) (nm : Nat) : RP → Option (Prop × St)
  | .r q => if q.bar then rstep sp none S nm q else none
  | .p dst f xs =>
    match pargs S.env S.bx xs with
    | some (l, ns) => match sp f (.tup [] :: l) with
      | some (p, .tup (r :: as)) => match wrL S.bx ns as with
        | some bx' => some ((allV S.va (xs.flatMap X.slot) ∧ ns.Nodup) ∧ p, { S with bx := bx', env := setE S.env dst (some r), va := setV S.va dst True })
        | none => none
      | _ => none
    | none => none
  | .k dst q =>
    match kstep S nm q with
    | some (p, res, bx', tk') => if dst.isNone || res.isSome then some (allV S.va q.slots ∧ p, { S with bx := bx', tk := tk', env := setE S.env dst res, va := setV S.va dst True }) else none
    | none => none
  | .t dst f e x xs =>
    match x.val S.env, args S.env xs with
    | some (.one (.sl t sz ys)), some l =>
      match sp f (.tup [.one (.mp e)] :: .one (.sl .full sz ys) :: l) with
      | some (p, .one (.sl .full sz' zs)) =>
        match t with
        | .no => none
        | .full => some ((allV S.va (x.slot ++ xs.flatMap X.slot) ∧ sz' = sz) ∧ p, { S with tk := upd S.tk nm (some (e, sz)), env := setE S.env dst (some (.one (.sl (.tk nm) sz zs))), va := setV S.va dst True })
        | .tk k => some ((allV S.va (x.slot ++ xs.flatMap X.slot) ∧ sz' = sz ∧ S.tk k = some (e, sz)) ∧ p, { S with tk := upd (upd S.tk k none) nm (some (e, sz)), env := setE S.env dst (some (.one (.sl (.tk nm) sz zs))), va := setV S.va dst True })
      | _ => none
    | _, _ => none
def prun (sp : Sp) (base : Nat) : Nat → List RP → St → Option (Prop × St)
  | _, [], S => some (True, S)
  | j, r :: rs, S =>
    match pstep sp S (base + j) r with
    | some (p, S') => match prun sp base (j + 1) rs S' with | some (q, S'') => some (p ∧ q, S'') | none => none
    | none => none
def isCall (P : Program) (op : Op) (f : FuncId) (xs : List X) : Bool := match op with | .call { callee := .value (.func g), args := ⟨os⟩, argTypes := T } => g == f && funcB P f && mtXs os xs | _ => false
theorem isCall_spec {P : Program} {op : Op} {f : FuncId} {xs : List X} (h : isCall P op f xs = true) : ∃ os T, op = .call { callee := .value (.func f), args := ⟨os⟩, argTypes := T } ∧ funcB P f = true ∧ mtXs os xs = true := by
  unfold isCall at h
  split at h
  · rename_i g os T
    simp only [Bool.and_eq_true, beq_iff_eq] at h
    obtain ⟨⟨rfl, h1⟩, h2⟩ := h
    exact ⟨os, T, rfl, h1, h2⟩
  · cases h
def mtRP (P : Program) (ops : Array Oper) (n : Nat) (o : Oper) : RP → Bool
  | .r q => mtR P ops n o q
  | .p dst f xs => o.dst == dst && o.guard.isNone && (match dst with | some d => decide (d < n) | none => true) &&
    isCall P o.op f xs
  | .t dst f e x xs => o.dst == dst && o.guard.isNone && (match dst with | some d => decide (d < n) | none => true) && isCall P o.op f (x :: xs)
  | .k dst q => o.dst == dst && o.guard.isNone && (match dst with | some d => decide (d < n) | none => true) && mtK P o.op q
def mtRPs (P : Program) (ops : Array Oper) (n : Nat) : List Oper → List RP → Bool
  | [], [] => true
  | o :: os, r :: rs => mtRP P ops n o r && mtRPs P ops n os rs
  | _, _ => false

section
variable {P : Program} {ops : Array Oper} {o : Oper} {M : Gh} {N : Nms} {S T T' : St} {fr : Nat → Prop} {own : Nat → Option Ow} {w : World} {nm n : Nat} {a : Act}

theorem SimO.varAt (h : SimO M N S fr own w) {b : Nat} {T : TypeId} {cs c : List D} (hb : S.bx b = some (.cells T cs)) (hc : cloL cs = some c) {g : Nat} (hg : N.bx b = some g) : VarAt M.pc w g T c := by
  obtain ⟨us, fz, h1, h2, h3⟩ := h.cells hb hg
  have hl := h3.clo hc
  refine ⟨us, fz, h1, h2, ?_⟩
  have : c.length = cs.length := by rw [← hl.1, h3.1]
  rw [this]; exact hl
theorem pargs_rep (h : SimO M N S fr own w) (he : EnvRep M.pc N S.env S.va a.tmps) : ∀ {os : List Operand} {xs : List X} {l : List A} {ns : List Nat}, mtXs os xs = true → pargs S.env S.bx xs = some (l, ns) → (∀ s ∈ xs.flatMap X.slot, S.va s) →
    ∃ gs : List (Nat × TypeId), PArgs M.pc w (os.map a.eval) l gs ∧ gs.length = ns.length ∧ ∀ (j : Nat) n, ns[j]? = some n → ∃ g T cs, gs[j]? = some (g, T) ∧ N.bx n = some g ∧ S.bx n = some (.cells T cs)
  | [], [], l, ns, _, hl, _ => by
    simp only [pargs, Option.some.injEq, Prod.mk.injEq] at hl; obtain ⟨rfl, rfl⟩ := hl
    exact ⟨[], trivial, rfl, fun j n h => by simp at h⟩
  | [], _ :: _, _, _, hm, _, _ => by simp [mtXs] at hm
  | _ :: _, [], _, _, hm, _, _ => by simp [mtXs] at hm
  | o :: os, x :: xs, l, ns, hm, hl, hva => by
    simp only [mtXs, Bool.and_eq_true] at hm
    have hvx : ∀ n ∈ x.slot, S.va n := fun n hn => hva n (by simp [hn])
    have hvr : ∀ s ∈ xs.flatMap X.slot, S.va s := fun n hn => hva n (by simp only [List.flatMap_cons, List.mem_append]; exact .inr hn)
    have oth : ∀ q, x.val S.env = some q → (q.clf.bind fun c => (pargs S.env S.bx xs).map fun (l, ns) => (c :: l, ns)) = some (l, ns) →
        ∃ gs : List (Nat × TypeId), PArgs M.pc w ((o :: os).map a.eval) l gs ∧ gs.length = ns.length ∧ ∀ (j : Nat) n, ns[j]? = some n → ∃ g T cs, gs[j]? = some (g, T) ∧ N.bx n = some g ∧ S.bx n = some (.cells T cs) := by
      intro q hx hl
      obtain ⟨c, hc, hl⟩ := bind_some hl
      obtain ⟨⟨l', ns'⟩, hl', e⟩ := map_some hl
      simp only [Prod.mk.injEq] at e; obtain ⟨rfl, rfl⟩ := e
      obtain ⟨gs, h1, h2, h3⟩ := pargs_rep h he hm.2 hl' hvr
      have hrep := (mtX_rep hm.1 hx hvx he).clf hc
      refine ⟨gs, ?_, h2, h3⟩
      cases c with
      | one d => exact ⟨hrep, h1⟩
      | agg cs => exact ⟨hrep, h1⟩
      | tup vs => exact hrep.elim
    simp only [pargs] at hl
    split at hl
    · rename_i b hx
      split at hl
      · rename_i T cs hb
        obtain ⟨c, hc, hl⟩ := bind_some hl
        obtain ⟨⟨l', ns'⟩, hl', e⟩ := map_some hl
        simp only [Prod.mk.injEq] at e; obtain ⟨rfl, rfl⟩ := e
        obtain ⟨gs, h1, h2, h3⟩ := pargs_rep h he hm.2 hl' hvr
        have hrep := (mtX_rep hm.1 hx hvx he).B
        obtain ⟨g, hg, hv⟩ := Rep.ptr_inv hrep
        obtain ⟨g', q, k1, k2, k3, k4, k5, k6⟩ := h.box b _ hb
        have : g' = g := by rw [hg] at k1; injection k1 with k1; exact k1.symm
        subst this
        refine ⟨(g', T) :: gs, ⟨hv, h.varAt hb hc hg, k6, h1⟩, by simp [h2], fun j n hn => ?_⟩
        cases j with
        | zero => simp only [List.getElem?_cons_zero, Option.some.injEq] at hn; subst hn; exact ⟨g', T, cs, rfl, hg, hb⟩
        | succ j => simpa using h3 j n (by simpa using hn)
      · cases hl
    · rename_i q _ hx
      exact oth _ hx hl
    · cases hl
theorem wrL_spec : ∀ {ns : List Nat} {css : List (List D)} {bx bx' : Nat → Option Box}, wrL bx ns (css.map .agg) = some bx' → ns.Nodup →
    css.length = ns.length ∧ (∀ (j : Nat) n cs, ns[j]? = some n → css[j]? = some cs → ∃ T c0, bx n = some (.cells T c0) ∧ bx' n = some (.cells T cs)) ∧ ∀ n, n ∉ ns → bx' n = bx n
  | [], [], bx, bx', h, hn => by
    simp only [List.map_nil, wrL, Option.some.injEq] at h; subst h
    exact ⟨rfl, fun j n cs h => by simp at h, fun _ _ => rfl⟩
  | [], _ :: _, bx, bx', h, hn => by simp [wrL] at h
  | _ :: _, [], bx, bx', h, hn => by simp [wrL] at h
  | n :: ns, cs :: css, bx, bx', h, hn => by
    simp only [List.map_cons, wrL] at h
    split at h
    · rename_i T c0 hb
      have hn' := List.nodup_cons.1 hn
      obtain ⟨h1, h2, h3⟩ := wrL_spec h hn'.2
      refine ⟨by simp [h1], fun j m c hj hc => ?_, fun m hm => ?_⟩
      · cases j with
        | zero =>
          simp only [List.getElem?_cons_zero, Option.some.injEq] at hj hc
          subst hj; subst hc
          exact ⟨T, c0, hb, by rw [h3 _ hn'.1, upd_same]⟩
        | succ j =>
          simp only [List.getElem?_cons_succ] at hj hc
          obtain ⟨T', c', h4, h5⟩ := h2 j m c hj hc
          have hne : m ≠ n := by rintro rfl; exact hn'.1 (List.mem_of_getElem? hj)
          rw [upd_ne _ _ _ hne] at h4
          exact ⟨T', c', h4, h5⟩
      · have hne : m ≠ n := by rintro rfl; exact hm (List.mem_cons_self ..)
        rw [h3 m (fun hm' => hm (List.mem_cons_of_mem _ hm')), upd_ne _ _ _ hne]
    · cases h
theorem PRes_get {pc : Nat → Nat → Option Value} {w : World} : ∀ {gs : List (Nat × TypeId)} {css : List (List D)}, PRes pc w gs css → gs.length = css.length ∧ ∀ (j : Nat) g T, gs[j]? = some (g, T) → ∃ cs, css[j]? = some cs ∧ VarAt pc w g T cs
  | [], [], h => ⟨rfl, fun j g T h => by simp at h⟩
  | [], _ :: _, h => h.elim
  | _ :: _, [], h => h.elim
  | (g, T) :: gs, cs :: css, h => by
    obtain ⟨h1, h2⟩ := h
    obtain ⟨h3, h4⟩ := PRes_get h2
    refine ⟨by simp [h3], fun j g' T' hj => ?_⟩
    cases j with
    | zero => simp only [List.getElem?_cons_zero, Option.some.injEq, Prod.mk.injEq] at hj; obtain ⟨rfl, rfl⟩ := hj; exact ⟨cs, rfl, h1⟩
    | succ j => simpa using h4 j g' T' (by simpa using hj)

theorem SimO.calledP (h : SimO M N S fr own w) {pc' : Nat → Nat → Option Value} {w' : World} {gs : List (Nat × TypeId)} {ns : List Nat} {css : List (List D)} {bx' : Nat → Option Box} (k : LeftP (· ∈ gs.map (·.1)) M.pc pc' w w') (hr : PRes pc' w' gs css)
    (hgl : gs.length = ns.length) (hg : ∀ (j : Nat) n, ns[j]? = some n → ∃ g T cs, gs[j]? = some (g, T) ∧ N.bx n = some g ∧ S.bx n = some (.cells T cs)) (hn : ns.Nodup) (hw : wrL S.bx ns (css.map .agg) = some bx') :
    M.Le { M with pc := pc' } ∧ SimO { M with pc := pc' } N { S with bx := bx' } fr own w' := by
  obtain ⟨hl, hin, hout⟩ := wrL_spec hw hn
  obtain ⟨_, hget⟩ := PRes_get hr
  have hblk : ∀ g, g ∈ gs.map (·.1) → ∃ n, n ∈ ns ∧ own g = some (.bx n) ∧ M.im g = none := by
    intro g hgm
    obtain ⟨⟨g', T⟩, hm, rfl⟩ := List.mem_map.1 hgm
    obtain ⟨j, hj, he⟩ := List.getElem_of_mem hm
    have hjn : j < ns.length := by rw [← hgl]; exact hj
    obtain ⟨g2, T2, cs2, k1, k2, k3⟩ := hg j ns[j] (List.getElem?_eq_getElem hjn)
    rw [List.getElem?_eq_getElem hj, he] at k1
    simp only [Option.some.injEq, Prod.mk.injEq] at k1; obtain ⟨rfl, rfl⟩ := k1
    obtain ⟨g3, q, q1, q2, q3, q4, q5, q6⟩ := h.box _ _ k3
    have : g3 = g' := by rw [k2] at q1; injection q1 with q1; exact q1.symm
    subst this
    exact ⟨ns[j], List.getElem_mem hjn, q2, q5⟩
  refine ⟨⟨k.mono, fun _ _ e => e, rfl, rfl, fun g hg i => k.keep g (h.fro g hg).1 i, rfl, rfl⟩, ⟨⟨k.base.1.trans h.base.1, k.base.2.1.trans h.base.2.1, k.base.2.2.trans h.base.2.2⟩, k.holds, fun g q e => ?_, fun g hg => ⟨Nat.lt_of_lt_of_le (h.fro g hg).1 k.size, (h.fro g hg).2⟩, fun g q e => Nat.lt_of_lt_of_le (h.lt g q e) k.size, fun n b e => ?_, fun t q e => ?_, h.fresh, fun q hq => k.mono _ _ _ (h.glob q hq), h.nb, Nat.le_trans h.big k.size⟩⟩
  · rw [k.heap g (h.im_lt e)]
    · exact h.im g q e
    · intro hm
      obtain ⟨n, _, _, h3⟩ := hblk g hm
      have e' : M.im g = some q := e
      rw [h3] at e'; cases e'
  · have e : bx' n = some b := e
    by_cases hnm : n ∈ ns
    · obtain ⟨j, hj, he⟩ := List.getElem_of_mem hnm
      have hjn : ns[j]? = some n := by rw [List.getElem?_eq_getElem hj, he]
      obtain ⟨g, T, cs0, k1, k2, k3⟩ := hg j n hjn
      obtain ⟨cs, hcs, us, fz, v1, v2, v3⟩ := hget j g T k1
      obtain ⟨T', c0, b1, b2⟩ := hin j n cs hjn hcs
      rw [k3] at b1; simp only [Option.some.injEq, Box.cells.injEq] at b1; obtain ⟨rfl, rfl⟩ := b1
      rw [b2] at e; injection e with e; subst e
      obtain ⟨g3, q, q1, q2, q3, q4, q5, q6⟩ := h.box _ _ k3
      have : g3 = g := by rw [k2] at q1; injection q1 with q1; exact q1.symm
      subst this
      have hlt := h.lt g3 _ q2
      exact ⟨g3, _, k2, q2, v1, ⟨us, fz, rfl, v2, v3.mono (fun _ _ _ e => e) (Nms.nil_le N)⟩, q5, fun i => by show pc' g3 i = none; rw [k.keep g3 hlt]; exact q6 i⟩
    · rw [hout n hnm] at e
      obtain ⟨g, q, h1, h2, h3, h4, h5, h6⟩ := h.box n b e
      have hlt := h.lt g _ h2
      have hnv : ¬ g ∈ gs.map (·.1) := by
        intro hm
        obtain ⟨n', hn', h7, _⟩ := hblk g hm
        rw [h2] at h7; simp only [Option.some.injEq, Ow.bx.injEq] at h7
        subst h7; exact hnm hn'
      exact ⟨g, q, h1, h2, by rw [k.heap g hlt hnv]; exact h3, h4.mono k.mono (Nms.Le.refl _), h5, fun i => by show pc' g i = none; rw [k.keep g hlt]; exact h6 i⟩
  · obtain ⟨v, h1, h2⟩ := h.tok t q e
    refine ⟨v, h1, ?_⟩
    rcases h2 with h2 | ⟨g, len, cap, cur, h2, h3, h4, h5, h6, h7, h8, h9⟩
    · exact .inl h2
    · have hlt := h.lt g _ h3
      have hnv : ¬ g ∈ gs.map (·.1) := by
        intro hm
        obtain ⟨n', hn', h7, _⟩ := hblk g hm
        rw [h3] at h7; cases h7
      exact .inr ⟨g, len, cap, cur, h2, h3, by rw [k.heap g hlt hnv]; exact h4, h5, h6, h7, h8, fun i hi => by show pc' g i = none; rw [k.keep g hlt]; exact h9 i hi⟩

theorem nodup_of_own (h : SimO M N S fr own w) {gs : List (Nat × TypeId)} {ns : List Nat} (hgl : gs.length = ns.length) (hg : ∀ (j : Nat) n, ns[j]? = some n → ∃ g T cs, gs[j]? = some (g, T) ∧ N.bx n = some g ∧ S.bx n = some (.cells T cs)) (hn : ns.Nodup) : (gs.map (·.1)).Nodup := by
  refine List.pairwise_iff_getElem.2 fun i j hi hj hij => ?_
  simp only [List.length_map] at hi hj
  have hin : i < ns.length := by omega
  have hjn : j < ns.length := by omega
  obtain ⟨g1, T1, c1, a1, a2, a3⟩ := hg i ns[i] (List.getElem?_eq_getElem hin)
  obtain ⟨g2, T2, c2, b1, b2, b3⟩ := hg j ns[j] (List.getElem?_eq_getElem hjn)
  rw [List.getElem?_eq_getElem hi] at a1
  rw [List.getElem?_eq_getElem hj] at b1
  simp only [Option.some.injEq] at a1 b1
  simp only [List.getElem_map, a1, b1]
  rintro rfl
  obtain ⟨g3, q, q1, q2, _⟩ := h.box _ _ a3
  obtain ⟨g4, q', r1, r2, _⟩ := h.box _ _ b3
  rw [a2] at q1; rw [b2] at r1
  injection q1 with q1; injection r1 with r1
  subst q1; subst r1
  rw [q2] at r2
  simp only [Option.some.injEq, Ow.bx.injEq] at r2
  exact List.pairwise_iff_getElem.1 hn i j hin hjn hij r2

/-- The slots behind an operation without a guard. -/
theorem env_put {env : Nat → Option A} {va : Nat → Prop} {dst : Option Nat} {res : Option A} {ov : Option Value} {pc pc' : Nat → Nat → Option Value} {N N' : Nms} (he : EnvRep pc N env va a.tmps) (hpc : ∀ g i u, pc g i = some u → pc' g i = some u) (hN : N.Le N') (hlt : ∀ d, dst = some d → d < n) (hn : n ≤ a.tmps.size) (hr : RepO pc' N' ov res) (hs : ∀ d, dst = some d → res.isSome = true) :
    EnvRep pc' N' (setE env dst res) (setV va dst True) (a.put dst (ov.getD undef)).tmps := by
  intro t b hb
  by_cases ht : dst = some t
  · subst ht
    have hb' : upd env t res t = some b := hb
    rw [upd_same] at hb'
    subst hb'
    cases ov with
    | none => exact hr.elim
    | some v =>
      refine ⟨fun _ => ⟨v, put_same (Nat.lt_of_lt_of_le (hlt t rfl) hn), hr⟩, fun hv => absurd ?_ hv⟩
      show upd va t True t
      rw [upd_same]; trivial
  · have e1 : setE env dst res t = env t := by
      cases dst with
      | none => rfl
      | some d =>
        have : t ≠ d := fun e => ht (by rw [e])
        exact upd_ne _ _ _ this
    have e2 : setV va dst True t = va t := by
      cases dst with
      | none => rfl
      | some d =>
        have : t ≠ d := fun e => ht (by rw [e])
        exact upd_ne _ _ _ this
    rw [e1] at hb
    rw [e2, put_other ht]
    exact (he.mono hpc hN) t b hb
/-- One operation of such a region. -/
theorem opP_sound {sp : Sp} (hsp : SpOK P M.gl sp) {r : RP} {p : Prop} (hm : mtRP P ops n o r = true) (hn : n ≤ a.tmps.size) (h : SimO M N S fr own w) (hnm : fr nm) (he : EnvRep M.pc N S.env S.va a.tmps) (hr : pstep sp S nm r = some (p, T')) (hp : p) {K : Act → World → Prop} {Q : Exit → Act → World → Prop}
    (k : ∀ a' w' M' N' own', M.Le M' → SimO M' N' T' (fun n => fr n ∧ n ≠ nm) own' w' → EnvRep M'.pc N' T'.env T'.va a'.tmps → a'.tmps.size = a.tmps.size → a'.defers = a.defers → T'.nx = S.nx → K a' w') :
    if Region.wanted o (yielded ops a.tmps) then o.wp P a w K Q ∨ (o.asks P a w ∧ LetsOut Q) else K (a.put o.dst undef) w := by
  cases r with
  | r q =>
    simp only [pstep] at hr
    split at hr
    · obtain ⟨hE, hV, hnx⟩ := rstep_env hr
      refine op_sound hsp hm hn h hnm (lim := none) (fun _ _ _ e => e) (fun _ _ e => e) (fun s _ b hb => he s b hb) hr hp ?_
      intro a' w' M' N' own' e h1 h2 h3 h4 h5 h6 _ _ h7 h8 h9 h10
      refine k a' w' M' N' own' h1 ?_ (env_step (he.mono h1.pc h2) h7 h8 hE hV) h9 h10 hnx
      exact ⟨h3.base, h3.pc, h3.im, h3.fro, h3.lt, by rw [h4]; exact h3.box, by rw [h5]; exact h3.tok, h3.fresh, h3.glob, h3.nb, h3.big⟩
    · cases hr
  | p dst f xs =>
    simp only [mtRP, Bool.and_eq_true, beq_iff_eq, Option.isNone_iff_eq_none] at hm
    obtain ⟨⟨⟨hdst, hg⟩, hlt⟩, hop⟩ := hm
    rw [if_pos (by simp [Region.wanted, hg])]
    refine .inl ?_
    simp only [pstep] at hr
    split at hr
    case h_2 => cases hr
    rename_i l ns hpa
    split at hr
    case h_2 => cases hr
    rename_i p' r0 as hsp'
    split at hr
    case h_2 => cases hr
    rename_i bx' hwr
    simp only [Option.some.injEq, Prod.mk.injEq] at hr
    obtain ⟨rfl, rfl⟩ := hr
    obtain ⟨⟨hva, hnd⟩, hp⟩ := hp
    obtain ⟨r1, css, hr1, haf⟩ := hsp.afp hsp' hp
    simp only [A.tup.injEq, List.cons.injEq] at hr1
    obtain ⟨rfl, rfl⟩ := hr1
    obtain ⟨os, T0, hopq, hf, hxs⟩ := isCall_spec hop
    obtain ⟨gs, g1, g2, g3⟩ := pargs_rep h he hxs hpa (allV_mem hva)
    obtain ⟨fn, f1, f2, f3⟩ := funcB_spec hf
    have hrun : (execOp a.eval o).run P w = .ok (.enter f ⟨os.map a.eval⟩) w := by
      have h3' : ¬ fn.body = none := by intro hb; rw [hb] at f3; cases f3
      have h2' : ¬ fn.name = "runtime.NumGoroutine" := by simpa using f2
      unfold execOp
      simp [hopq, resolve, invoke, callFunc, Deferred.ofValue, Act.eval, f1, h2', h3']
    unfold Oper.wp
    rw [hrun, Oper.upon_enter]
    refine Calls.mono (haf M.pc w ⟨os.map a.eval⟩ gs h.pc h.glob g1 (nodup_of_own h g2 g3 hnd)) ?_
    intro e w' he'
    cases e with
    | panicked c => exact he'.elim
    | outgrown => exact he'.elim
    | returned v =>
      obtain ⟨pc', hleft, hrep, hres⟩ := he'
      obtain ⟨hle, hs⟩ := h.calledP hleft hres g2 g3 hnd hwr
      refine k _ w' { M with pc := pc' } N own hle ?_ ?_ ?_ ?_ rfl
      · exact (hs.env _ _).later fun _ hn => hn.1
      · rw [hdst]
        refine env_step (r := ⟨dst, .mv (.c r0), none, [], true, []⟩) (he.mono hle.pc (Nms.Le.refl _)) (fun d hd b hb => ?_) (fun t ht => put_other ht) (fun t ht => ?_) (fun t ht => ?_)
        · have hd : dst = some d := hd
          subst hd
          have hlt : d < n := by simpa using hlt
          have hb' : upd S.env d (some r0) d = some b := hb
          rw [upd_same] at hb'; injection hb' with hb'; subst hb'
          refine ⟨fun _ => ⟨v, put_same (Nat.lt_of_lt_of_le hlt hn), RepA.mono (fun _ _ _ e => e) (Nms.nil_le N) hrep⟩, fun hv => absurd ?_ hv⟩
          show upd S.va d True d
          rw [upd_same]; trivial
        · cases dst with
          | none => rfl
          | some d =>
            have : t ≠ d := fun e => ht (by rw [e])
            exact upd_ne _ _ _ this
        · cases dst with
          | none => rfl
          | some d =>
            have : t ≠ d := fun e => ht (by rw [e])
            exact upd_ne _ _ _ this
      · rw [hdst]; exact put_size
      · rw [hdst]; exact put_defers

  | k dst q =>
    simp only [mtRP, Bool.and_eq_true, beq_iff_eq, Option.isNone_iff_eq_none] at hm
    obtain ⟨⟨⟨hdst, hg⟩, hlt⟩, hop⟩ := hm
    rw [if_pos (by simp [Region.wanted, hg])]
    refine .inl ?_
    simp only [pstep] at hr
    split at hr
    case h_2 => cases hr
    rename_i p' res bx' tk' hk
    split at hr
    case isFalse => cases hr
    rename_i hres
    simp only [Option.some.injEq, Prod.mk.injEq] at hr
    obtain ⟨rfl, rfl⟩ := hr
    obtain ⟨ov, w', M', N', own', h1, h2, h3, h4, h5⟩ := K_sound hop h hnm he hk hp.1 hp.2
    have hfin := k (a.put o.dst (ov.getD undef)) w' M' N' own' h2 ((h4.env _ _)) (by
      rw [hdst]
      exact env_put he h2.pc h3 (fun d hd => by subst hd; simpa using hlt) hn h5 (fun d hd => by subst hd; simpa using hres)) (by rw [hdst]; exact put_size) (by rw [hdst]; exact put_defers) rfl
    unfold Oper.wp
    rw [h1]
    cases ov with
    | none => exact hfin
    | some v => exact hfin
  | t dst f e x xs =>
    simp only [mtRP, Bool.and_eq_true, beq_iff_eq, Option.isNone_iff_eq_none] at hm
    obtain ⟨⟨⟨hdst, hg⟩, hlt⟩, hop⟩ := hm
    rw [if_pos (by simp [Region.wanted, hg])]
    refine .inl ?_
    simp only [pstep] at hr
    split at hr
    case h_2 => cases hr
    rename_i t sz ys l hx hl
    split at hr
    case h_2 => cases hr
    rename_i p' sz' zs hsp'
    obtain ⟨os, T0, hopq, hf, hxs⟩ := isCall_spec hop
    cases os with
    | nil => simp [mtXs] at hxs
    | cons o0 os =>
    simp only [mtXs, Bool.and_eq_true] at hxs
    obtain ⟨fn, f1, f2, f3⟩ := funcB_spec hf
    have hrun : (execOp a.eval o).run P w = .ok (.enter f ⟨a.eval o0 :: os.map a.eval⟩) w := by
      have h3' : ¬ fn.body = none := by intro hb; rw [hb] at f3; cases f3
      have h2' : ¬ fn.name = "runtime.NumGoroutine" := by simpa using f2
      unfold execOp
      simp [hopq, resolve, invoke, callFunc, Deferred.ofValue, Act.eval, f1, h2', h3']
    -- what is common
    have core : ∀ (S1 : St) (own1 : Nat → Option Ow) (b : Option Nat), SimO M N S1 fr own1 w → S1.env = S.env → S1.va = S.va → S1.bx = S.bx → S1.nx = S.nx → p' → sz' = sz → allV S.va (x.slot ++ xs.flatMap X.slot) → Rep M.pc Nms.nil (a.eval o0) (.sl .no sz ys) → OwnRow M.pc w e sz (a.eval o0) b →
        (∀ g, b = some g → ∃ t, own1 g = some (.tk t) ∧ S1.tk t = none ∧ M.im g = none) → T' = { S with tk := upd S1.tk nm (some (e, sz)), env := setE S.env dst (some (.one (.sl (.tk nm) sz zs))), va := setV S.va dst True } → o.wp P a w K Q := by
      intro S1 own1 b hS1 e1 e2 e3 e4 hp' hsz hva hrep hown hb hT
      subst hsz
      obtain ⟨ys', hys, haf⟩ := hsp.aft hsp' hp'
      simp only [A.one.injEq, D.sl.injEq] at hys
      obtain ⟨_, _, rfl⟩ := hys
      have hva2 : ∀ s ∈ xs.flatMap X.slot, S.va s := fun s hs => allV_mem hva s (List.mem_append.2 (.inr hs))
      have hargs := args_rep he hxs.2 hl hva2
      unfold Oper.wp
      rw [hrun, Oper.upon_enter]
      refine Calls.mono (haf M.pc w (a.eval o0) (os.map a.eval) b h.pc h.glob hrep hown hargs) ?_
      intro ee w' he'
      cases ee with
      | panicked c => exact he'.elim
      | outgrown => exact he'.elim
      | returned v =>
        obtain ⟨pc', b', hleft, hr', ho', hb'⟩ := he'
        obtain ⟨hle, hs2⟩ := hS1.calledT hb hleft
        obtain ⟨N', own', hN, hs3, hr3⟩ := hs2.newRowTok hnm ho' (fun g hg => by
          rcases hb' g hg with h1 | h1
          · obtain ⟨t, k1, k2, k3⟩ := hb g h1
            exact ⟨.inr ⟨t, k1, k2⟩, k3, fun hf => by have := (hS1.fro g hf).2; rw [k1] at this; cases this⟩
          · refine ⟨.inl ?_, ?_, fun hf => by have := (hS1.fro g hf).1; omega⟩
            · cases e5 : own1 g with
              | none => rfl
              | some q => have := hS1.lt g q e5; omega
            · cases e5 : M.im g with
              | none => rfl
              | some q => have := hS1.im_lt e5; omega) hr'
        have hfin := k (a.put o.dst v) w' { M with pc := pc' } N' own' hle (by
          subst hT
          have := hs3.env (setE S.env dst (some (.one (.sl (.tk nm) sz' zs)))) (setV S.va dst True)
          rw [e3, e4] at this
          exact this) (by
          subst hT
          rw [hdst]
          exact env_put (ov := some v) he hle.pc hN (fun d hd => by subst hd; simpa using hlt) hn hr3 (fun _ _ => rfl)) (by rw [hdst]; exact put_size) (by rw [hdst]; exact put_defers) (by subst hT; rfl)
        exact hfin
    have hx' : allV S.va (x.slot ++ xs.flatMap X.slot) → RepA M.pc N (a.eval o0) (.one (.sl t sz ys)) := fun hva => mtX_rep hxs.1 hx (fun s hs => allV_mem hva s (List.mem_append.2 (.inl hs))) he
    cases t with
    | no => cases hr
    | full =>
      simp only [Option.some.injEq, Prod.mk.injEq] at hr
      obtain ⟨rfl, rfl⟩ := hr
      have hrep : Rep M.pc N (a.eval o0) (.sl .full sz ys) := hx' hp.1.1
      refine core S own none h rfl rfl rfl rfl hp.2 hp.1.2 hp.1.1 (hrep.clo rfl) (.inl ⟨rfl, ?_⟩) (fun g hg => by cases hg) rfl
      obtain ⟨Ad, cap, g, off, u, hv, _, _, _, _, _, _, ht⟩ := hrep.sl_inv
      exact ⟨Ad, _, by rw [hv, show cap = ys.length from ht]⟩
    | tk t =>
      simp only [Option.some.injEq, Prod.mk.injEq] at hr
      obtain ⟨rfl, rfl⟩ := hr
      have hrep : Rep M.pc N (a.eval o0) (.sl (.tk t) sz ys) := hx' hp.1.1
      obtain ⟨v, k1, k2⟩ := h.tok t _ hp.1.2.2
      have hv : a.eval o0 = v := by
        obtain ⟨Ad, cap, g, off, u, hv, _, _, _, _, _, _, ht⟩ := hrep.sl_inv
        have ht' : N.tk t = some (.slice Ad ys.length cap) := ht
        rw [k1] at ht'; injection ht' with ht'; rw [hv, ht']
      rcases k2 with ⟨Ad, n0, rfl⟩ | ⟨g, len, cap, cur, rfl, k3, k4, k5, k6, k7, k8, k9⟩
      · exact core { S with tk := upd S.tk t none } own none (h.kill t) rfl rfl rfl rfl hp.2 hp.1.2.1 hp.1.1 (hrep.clo rfl) (.inl ⟨rfl, Ad, n0, hv⟩) (fun g hg => by cases hg) rfl
      · exact core { S with tk := upd S.tk t none } own (some g) (h.kill t) rfl rfl rfl rfl hp.2 hp.1.2.1 hp.1.1 (hrep.clo rfl) (.inr ⟨g, len, cap, cur, rfl, hv, k4, k5, k6, k7, k9⟩) (fun g' hg' => by
          injection hg' with hg'; subst hg'
          exact ⟨t, k3, upd_same _ _ _, k8⟩) rfl

theorem opsP_sound {sp : Sp} {gl : List (Nat × Nat × Value)} (hsp : SpOK P gl sp) {Q : Exit → Act → World → Prop} : ∀ (os : List Oper) (rs : List RP) (j : Nat) (S S' : St) (M : Gh) (a : Act) (w : World) (p : Prop), M.gl = gl → (∀ i, os[i]? = ops[j + i]?) → mtRPs P ops n os rs = true →
    (∃ N own, SimO M N S (fun k => S.nx + j ≤ k) own w ∧ EnvRep M.pc N S.env S.va a.tmps) → n ≤ a.tmps.size → a.defers = [] → prun sp S.nx j rs S = some (p, S') → p →
    (∀ a' w' M', M.Le M' → (∃ N own, SimO M' N S' (fun k => S.nx + j + rs.length ≤ k) own w' ∧ EnvRep M'.pc N S'.env S'.va a'.tmps) → n ≤ a'.tmps.size → a'.defers = [] → Q .normal a' w') →
    wpOps P ops Q (List.range' j os.length) a w
  | [], [], j, S, S', M, a, w, p, hgl, _, _, h, hn, hd, hr, hp, k => by
    simp only [prun, Option.some.injEq, Prod.mk.injEq] at hr
    obtain ⟨_, rfl⟩ := hr
    exact k a w M (Gh.Le.refl _) h hn hd
  | [], _ :: _, _, _, _, _, _, _, _, _, _, hm, _, _, _, _, _, _ => by simp [mtRPs] at hm
  | _ :: _, [], _, _, _, _, _, _, _, _, _, hm, _, _, _, _, _, _ => by simp [mtRPs] at hm
  | o :: os, r :: rs, j, S, S', M, a, w, p, hgl, hos, hm, h, hn, hd, hr, hp, k => by
    simp only [mtRPs, Bool.and_eq_true] at hm
    obtain ⟨N, own, hsim, henv⟩ := h
    simp only [prun] at hr
    split at hr
    · rename_i p1 S1 hstep
      split at hr
      · rename_i q S2 hrest
        simp only [Option.some.injEq, Prod.mk.injEq] at hr
        obtain ⟨rfl, rfl⟩ := hr
        have h0 : ops[j]? = some o := by have := hos 0; simpa using this.symm
        simp only [List.length_cons, List.range'_succ, wpOps, h0]
        refine opP_sound (by rw [hgl]; exact hsp) hm.1 hn hsim (nm := S.nx + j) (Nat.le_refl _) henv hstep hp.1 ?_
        intro a' w' M' N' own' h1 h3 h4 h9 h10 hnx
        rw [← hnx] at hrest
        refine opsP_sound hsp os rs (j + 1) S1 _ M' a' w' q (h1.gl.trans hgl) (fun i => by have := hos (i + 1); simpa [Nat.add_assoc, Nat.add_comm 1] using this) hm.2 ⟨N', own', h3.later fun k hk => ⟨by omega, by omega⟩, h4⟩ (by rw [h9]; exact hn) (by rw [h10]; exact hd) hrest hp.2 ?_
        intro a2 w2 M2 hle ⟨N2, own2, hs2, he2⟩ hn2 hd2
        refine k a2 w2 M2 (h1.trans hle) ⟨N2, own2, ?_, he2⟩ hn2 hd2
        refine hs2.later fun k hk => ?_
        rw [hnx]
        simp only [List.length_cons] at hk
        omega
      · cases hr
    · cases hr
end
end Go.Proofs.YtbhingdlclfipaaDoor.Ab
