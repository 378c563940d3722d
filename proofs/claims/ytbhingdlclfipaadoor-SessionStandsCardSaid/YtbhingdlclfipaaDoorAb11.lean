/- An abstract calculus over pure data, part 11: every operation does what part 3 says. -/
import Derived.Test.YtbhingdlclfipaaDoorAb10
namespace Go.Proofs.YtbhingdlclfipaaDoor.Ab
open Go Go.RowKit
set_option linter.unusedVariables false
set_option linter.unusedSimpArgs false

section
variable {P : Program} {o : Oper} {M : Gh} {N : Nms} {S : St} {fr : Nat → Prop} {own : Nat → Option Ow} {w : World} {nm : Nat} {a : Act}

/-- What goes on behind an operation. -/
def Goes (M : Gh) (N : Nms) (S : St) (fr : Nat → Prop) (nm : Nat) (r : Option A) (e : Eff) (dst : Option Tmp) (a : Act) (next : Act → World → Prop) : Prop :=
  ∀ ov w' M' N' own', M.Le M' → N.Le N' → SimO M' N' (S.eff nm e) (fun n => fr n ∧ n ≠ nm) own' w' → RepO M'.pc N' ov r → next (a.put dst (ov.getD undef)) w'
theorem Done.goes {r : Option A} {e : Eff} {next : Act → World → Prop} {Q : Exit → Act → World → Prop} (h : Done P o a.eval M N S fr w nm r e) (k : Goes M N S fr nm r e o.dst a next) : o.wp P a w next Q := by
  obtain ⟨ov, w', M', N', own', hr, h1, h2, h3, h4⟩ := h
  have := k ov w' M' N' own' h1 h2 h3 h4
  unfold Oper.wp
  rw [hr]
  cases ov with
  | none => exact this
  | some v => exact this
theorem call_goes {f : FuncId} {os : List Operand} {l : List A} {r : A} {T : Array TypeId} {next : Act → World → Prop} {Q : Exit → Act → World → Prop} (h : SimO M N S fr own w) (ho : o.op = .call { callee := .value (.func f), args := ⟨os⟩, argTypes := T })
    (hf : funcB P f = true) (hl : ArgsRep M.pc (os.map a.eval) l) (haf : AF P M.gl f l r) (k : Goes M N S fr nm (some r) .nil o.dst a next) : o.wp P a w next Q := by
  obtain ⟨fn, h1, h2, h3⟩ := funcB_spec hf
  have hrun : (execOp a.eval o).run P w = .ok (.enter f ⟨os.map a.eval⟩) w := by
    have h3' : ¬ fn.body = none := by intro hb; rw [hb] at h3; cases h3
    have h2' : ¬ fn.name = "runtime.NumGoroutine" := by simpa using h2
    unfold execOp
    simp [ho, resolve, invoke, callFunc, Deferred.ofValue, Act.eval, h1, h2', h3']
  unfold Oper.wp
  rw [hrun, Oper.upon_enter]
  refine Calls.mono (haf M.pc w ⟨os.map a.eval⟩ h.pc h.glob hl) ?_
  intro e w' he
  cases e with
  | returned v =>
    obtain ⟨pc', hleft, hrep⟩ := he
    obtain ⟨hle, hs⟩ := h.called hleft
    exact k (some v) w' { M with pc := pc' } N own hle (Nms.Le.refl _) (hs.later fun _ hn => hn.1) (RepA.mono (fun _ _ _ e => e) (Nms.nil_le N) hrep)
  | panicked c => exact he.elim
  | outgrown => exact he.elim
theorem bind_some {α β : Type} {x : Option α} {f : α → Option β} {b : β} (h : x.bind f = some b) : ∃ y, x = some y ∧ f y = some b := Option.bind_eq_some_iff.1 h
theorem map_some {α β : Type} {x : Option α} {f : α → β} {b : β} (h : x.map f = some b) : ∃ y, x = some y ∧ f y = b := Option.map_eq_some_iff.1 h

theorem step_sound {sp : Sp} (hsp : SpOK P M.gl sp) {i : I} {env : Nat → Option A} {va : Nat → Prop} {bx : Nat → Option Box} {tk : Nat → Option (TypeId × Nat)} {p : Prop} {r : Option A} {e : Eff} (hm : mt P o.op i = true) (h : SimO M N S fr own w) (hnm : fr nm)
    (hbx : ∀ n b, bx n = some b → S.bx n = some b) (htk : ∀ n q, tk n = some q → S.tk n = some q) (he : EnvRep M.pc N env va a.tmps) (hs : istep sp bx tk env nm i = some (p, r, e)) (hva : i.need env va) (hp : p)
    {next : Act → World → Prop} {Q : Exit → Act → World → Prop} (k : Goes M N S fr nm r e o.dst a next) : o.wp P a w next Q := by
  have X1 : ∀ {y : Operand} {x : X} {q : A}, mtX y x = true → allV va x.slot → x.val env = some q → RepA M.pc N (a.eval y) q := fun h1 h2 h3 => mtX_rep h1 h3 (allV_mem h2) he
  have app1 : ∀ {l1 l2 : List Nat}, allV va (l1 ++ l2) → allV va l1 ∧ allV va l2 := by
    intro l1 l2
    induction l1 with
    | nil => intro h; exact ⟨trivial, h⟩
    | cons x l ih => intro h; exact ⟨⟨h.1, (ih h.2).1⟩, (ih h.2).2⟩
  generalize hop : o.op = op at hm
  unfold mt at hm
  split at hm
  -- moves
  case h_1 x y =>
    obtain ⟨q, hq, hs⟩ := map_some hs
    simp only [Prod.mk.injEq] at hs; obtain ⟨rfl, rfl, rfl⟩ := hs
    exact (d_mv h (.inl hop) (X1 hm hva hq)).goes k
  case h_2 x y =>
    obtain ⟨q, hq, hs⟩ := map_some hs
    simp only [Prod.mk.injEq] at hs; obtain ⟨rfl, rfl, rfl⟩ := hs
    exact (d_mv h (.inr hop) (X1 hm hva hq)).goes k
  case h_3 c x y c' x' y' =>
    simp only [Bool.and_eq_true] at hm
    obtain ⟨hvc, hvt⟩ := hva
    have key : ∀ (t : Bool) (r1 r2 rr : A), c'.val env = some (.one (.v (.bool t))) → x'.val env = some r1 → y'.val env = some r2 → (rr = if t = true then r1 else r2) → Done P o a.eval M N S fr w nm (some rr) .nil := by
      intro t r1 r2 rr hc h1 h2 hrr
      have hc' := (X1 hm.1.1 hvc hc).B.v_inv
      rw [hc] at hvt
      refine d_pick h hop hc' ?_
      subst hrr
      cases t
      · simpa using X1 hm.2 (hvt.2 rfl) h2
      · simpa using X1 hm.1.2 (hvt.1 rfl) h1
    simp only [istep] at hs
    split at hs
    · rename_i t p q hc h1 h2
      simp only [Option.some.injEq, Prod.mk.injEq] at hs; obtain ⟨rfl, rfl, rfl⟩ := hs
      exact (key t _ _ _ hc h1 h2 (by cases t <;> rfl)).goes k
    · rename_i t p q _ hc h1 h2
      simp only [Option.some.injEq, Prod.mk.injEq] at hs; obtain ⟨rfl, rfl, rfl⟩ := hs
      exact (key t _ _ _ hc h1 h2 rfl).goes k
    · cases hs
  -- variables in memory
  case h_4 T T' zs =>
    simp only [Bool.and_eq_true, beq_iff_eq] at hm
    obtain ⟨rfl, hm⟩ := hm
    obtain ⟨i, z, h1, h2, h3⟩ := zeroB_spec hm
    simp only [istep, Option.some.injEq, Prod.mk.injEq] at hs; obtain ⟨rfl, rfl, rfl⟩ := hs
    exact (d_alloc h hnm hop h1 h2 h3).goes k
  case h_5 T x T' y =>
    simp only [Bool.and_eq_true, beq_iff_eq] at hm
    obtain ⟨rfl, hm⟩ := hm
    simp only [istep] at hs
    split at hs
    · rename_i d hq
      simp only [Option.some.injEq, Prod.mk.injEq] at hs; obtain ⟨rfl, rfl, rfl⟩ := hs
      exact (d_box (r := .one d) h hnm hop (X1 hm hva hq)).goes k
    · rename_i cs hq
      simp only [Option.some.injEq, Prod.mk.injEq] at hs; obtain ⟨rfl, rfl, rfl⟩ := hs
      exact (d_box (r := .agg cs) h hnm hop (X1 hm hva hq)).goes k
    · cases hs
  -- built
  case h_6 T qs zs ps =>
    simp only [Bool.and_eq_true] at hm
    obtain ⟨hm, hz⟩ := hm
    obtain ⟨i, z, h1, h2, h3⟩ := zeroB_spec hz
    split at hm
    · rename_i fs hfs
      simp only [Bool.and_eq_true, List.all_eq_true] at hm
      obtain ⟨l, hl, hs⟩ := map_some hs
      simp only [Prod.mk.injEq] at hs; obtain ⟨rfl, rfl, rfl⟩ := hs
      exact (d_build h hop hfs h1 h2 h3 hm.1 (parts_rep he hm.2 hl (allV_mem hva)) hp).goes k
    · cases hm
  case h_7 T n qs e' sz xs =>
    simp only [Bool.and_eq_true, beq_iff_eq, decide_eq_true_eq] at hm
    obtain ⟨⟨⟨⟨⟨h1, h2⟩, h3⟩, h4⟩, h5⟩, h6⟩ := hm
    obtain ⟨e2, hu, h1⟩ := slB_spec h1
    have : e2 = e' := by simpa using h1
    subst this
    split at h2
    · rename_i i hi
      simp only [Bool.and_eq_true, beq_iff_eq] at h2
      obtain ⟨h2, h2'⟩ := h2
      split at h2'
      · rename_i z hz
        simp only [Bool.and_eq_true, beq_iff_eq] at h2'
        obtain ⟨l, hl, hs⟩ := map_some hs
        simp only [Prod.mk.injEq] at hs; obtain ⟨rfl, rfl, rfl⟩ := hs
        obtain ⟨vs, h7, h8, h9⟩ := elems_rep he h6 hl (allV_mem hva)
        exact (d_bsl (vs := vs) h hop hu hi h2 hz h2'.1 h2'.2 h3 (h4.trans h9) h5 (by simpa using h7) h8 hp.1 hp.2.1).goes k
      · cases h2'
    · cases h2
  case h_8 T x n ag y =>
    simp only [Bool.and_eq_true] at hm
    obtain ⟨d, h1, h2, h3, h4⟩ := cellB_spec hm.1
    simp only [istep] at hs
    split at hs
    · rename_i b off hq
      split at hs
      · rename_i T' cs hb
        obtain ⟨q, hr, hs⟩ := map_some hs
        simp only [Prod.mk.injEq] at hs; obtain ⟨rfl, rfl, rfl⟩ := hs
        exact (d_load h hop h1 h2 h3 h4 (X1 hm.2 hva hq).B (hbx _ _ hb) hr hp).goes k
      · cases hs
    · rename_i cs hq
      obtain ⟨q, hr, hs⟩ := map_some hs
      simp only [Prod.mk.injEq] at hs; obtain ⟨rfl, rfl, rfl⟩ := hs
      exact (d_loadE h hop h1 h2 h3 h4 (X1 hm.2 hva hq).B hr hp).goes k
    · cases hs
  case h_9 T x y n x' y' =>
    simp only [Bool.and_eq_true] at hm
    obtain ⟨v1, v2⟩ := app1 hva
    simp only [istep] at hs
    split at hs
    · rename_i b off d hq1 hq2
      split at hs
      · rename_i T' cs hb
        simp only [Option.some.injEq, Prod.mk.injEq] at hs; obtain ⟨rfl, rfl, rfl⟩ := hs
        exact (d_store (r := .one d) h hop (by rw [szB_map hm.1.1, hp.1]; rfl) (X1 hm.1.2 v1 hq1).B (hbx _ _ hb) (X1 hm.2 v2 hq2) hp.2).goes k
      · cases hs
    · rename_i b off ds hq1 hq2
      split at hs
      · rename_i T' cs hb
        simp only [Option.some.injEq, Prod.mk.injEq] at hs; obtain ⟨rfl, rfl, rfl⟩ := hs
        exact (d_store (r := .agg ds) h hop (by rw [szB_map hm.1.1]; show some n = some ds.length; rw [hp.1]) (X1 hm.1.2 v1 hq1).B (hbx _ _ hb) (X1 hm.2 v2 hq2) hp.2).goes k
      · cases hs
    · cases hs
  case h_10 x y =>
    simp only [istep] at hs
    split at hs
    · rename_i b off hq
      simp only [Option.some.injEq, Prod.mk.injEq] at hs; obtain ⟨rfl, rfl, rfl⟩ := hs
      obtain ⟨g, hg, hv⟩ := (X1 hm hva hq).B.ptr_inv
      exact (d_nchk h hop (X1 hm hva hq).B hv).goes k
    · rename_i cs hq
      simp only [Option.some.injEq, Prod.mk.injEq] at hs; obtain ⟨rfl, rfl, rfl⟩ := hs
      obtain ⟨g, q, us, hv, _⟩ := (X1 hm hva hq).B.ea_inv
      exact (d_nchk h hop (X1 hm hva hq).B hv).goes k
    · cases hs
  -- two operands
  case h_11 op T x y U op' x' y' =>
    simp only [Bool.and_eq_true, beq_iff_eq] at hm
    obtain ⟨⟨rfl, hm1⟩, hm2⟩ := hm
    obtain ⟨v1, v2⟩ := app1 hva
    simp only [istep] at hs
    split at hs
    · rename_i u v hq1 hq2
      obtain ⟨⟨p', r'⟩, hr, hs⟩ := map_some hs
      simp only [Prod.mk.injEq] at hs; obtain ⟨rfl, rfl, rfl⟩ := hs
      exact (d_bin h hop (X1 hm1 v1 hq1).B.v_inv (X1 hm2 v2 hq2).B.v_inv hr hp).goes k
    · cases hs
  case h_12 op T x y U neg x' y' =>
    simp only [Bool.and_eq_true, beq_iff_eq] at hm
    obtain ⟨⟨⟨rfl, hT⟩, hm1⟩, hm2⟩ := hm
    obtain ⟨v1, v2⟩ := app1 hva
    simp only [istep] at hs
    split at hs
    · rename_i u v hq1 hq2
      simp only [Option.some.injEq, Prod.mk.injEq] at hs; obtain ⟨rfl, rfl, rfl⟩ := hs
      exact (d_eqb h hop (boolB_spec hT) (X1 hm1 v1 hq1).B.v_inv (X1 hm2 v2 hq2).B.v_inv).goes k
    · cases hs
  case h_13 op T x y U neg ks x' y' =>
    simp only [Bool.and_eq_true, beq_iff_eq, Bool.not_eq_true'] at hm
    obtain ⟨⟨⟨⟨⟨rfl, hT⟩, h1⟩, h2⟩, hm1⟩, hm2⟩ := hm
    obtain ⟨v1, v2⟩ := app1 hva
    split at hT
    · rename_i fs hfs
      simp only [istep] at hs
      split at hs
      · rename_i cs ds hq1 hq2
        obtain ⟨q, hr, hs⟩ := map_some hs
        simp only [Prod.mk.injEq] at hs; obtain ⟨rfl, rfl, rfl⟩ := hs
        exact (d_eqs h hop hfs h1 h2 hT (X1 hm1 v1 hq1) (X1 hm2 v2 hq2) hr).goes k
      · cases hs
    · cases hT
  case h_14 op T x op' y =>
    simp only [Bool.and_eq_true, beq_iff_eq] at hm
    obtain ⟨rfl, hm⟩ := hm
    simp only [istep] at hs
    split at hs
    · rename_i u hq
      obtain ⟨q, hr, hs⟩ := map_some hs
      simp only [Prod.mk.injEq] at hs; obtain ⟨rfl, rfl, rfl⟩ := hs
      exact (d_un h hop (X1 hm hva hq).B.v_inv hr).goes k
    · cases hs
  -- conversions
  case h_15 s t x k' y =>
    simp only [Bool.and_eq_true] at hm
    simp only [istep] at hs
    split at hs
    · rename_i kk n hq
      simp only [Option.some.injEq, Prod.mk.injEq] at hs; obtain ⟨rfl, rfl, rfl⟩ := hs
      exact (d_cvi h hop hm.1.1 (intB_spec hm.1.2) (X1 hm.2 hva hq).B.v_inv).goes k
    · cases hs
  case h_16 s t x y =>
    simp only [Bool.and_eq_true] at hm
    simp only [istep] at hs
    split at hs
    · rename_i n hq
      simp only [Option.some.injEq, Prod.mk.injEq] at hs; obtain ⟨rfl, rfl, rfl⟩ := hs
      exact (d_cv0 h hop (strB_spec hm.1.1) (strB_spec hm.1.2) (X1 hm.2 hva hq).B.v_inv).goes k
    · cases hs
  case h_17 s t x y =>
    simp only [Bool.and_eq_true] at hm
    obtain ⟨e2, h1, h2⟩ := bytesB_spec hm.1.1
    simp only [istep] at hs
    split at hs
    · rename_i tt z xs hq
      simp only [Option.some.injEq, Prod.mk.injEq] at hs; obtain ⟨rfl, rfl, rfl⟩ := hs
      obtain ⟨rfl, hp⟩ := hp
      exact (d_cvs h hop h1 h2 (strB_spec hm.1.2) (X1 hm.2 hva hq).B hp).goes k
    · rename_i b q len hq
      split at hs
      · rename_i T' cs hb
        simp only [Option.some.injEq, Prod.mk.injEq] at hs; obtain ⟨rfl, rfl, rfl⟩ := hs
        exact (d_cvs_rs h hop h1 h2 (strB_spec hm.1.2) (X1 hm.2 hva hq).B (hbx _ _ hb) hp.1 hp.2).goes k
      · cases hs
    · cases hs
  case h_18 s t x e' y =>
    simp only [Bool.and_eq_true] at hm
    obtain ⟨e2, h1, h2⟩ := slB_spec hm.1.2
    simp only [Bool.and_eq_true, beq_iff_eq] at h2
    obtain ⟨rfl, h2⟩ := h2
    simp only [istep] at hs
    split at hs
    · rename_i n hq
      simp only [Option.some.injEq, Prod.mk.injEq] at hs; obtain ⟨rfl, rfl, rfl⟩ := hs
      exact (d_cvb h hop (strB_spec hm.1.1) h1 (intB_spec h2) (X1 hm.2 hva hq).B.v_inv hp).goes k
    · cases hs
  case h_19 s t x e' y =>
    simp only [Bool.and_eq_true] at hm
    obtain ⟨e2, h1, h2⟩ := slB_spec hm.1.2
    simp only [Bool.and_eq_true, beq_iff_eq] at h2
    obtain ⟨rfl, h2⟩ := h2
    simp only [istep] at hs
    split at hs
    · rename_i n hq
      simp only [Option.some.injEq, Prod.mk.injEq] at hs; obtain ⟨rfl, rfl, rfl⟩ := hs
      exact (d_cvm h hnm hop (strB_spec hm.1.1) h1 (intB_spec h2) (X1 hm.2 hva hq).B.v_inv hp).goes k
    · cases hs
  case h_20 s t x y =>
    simp only [Bool.and_eq_true] at hm
    simp only [istep] at hs
    split at hs
    · rename_i kk n hq
      simp only [Option.some.injEq, Prod.mk.injEq] at hs; obtain ⟨rfl, rfl, rfl⟩ := hs
      exact (d_cvr h hop hm.1.1 (strB_spec hm.1.2) (X1 hm.2 hva hq).B.v_inv).goes k
    · cases hs
  -- parts
  case h_21 T x f off y =>
    simp only [Bool.and_eq_true] at hm
    obtain ⟨fs, F, h1, h2, h3⟩ := fieldB_spec hm.1
    simp only [Bool.and_eq_true, beq_iff_eq] at h3
    obtain ⟨h3, h4⟩ := h3
    split at h4
    · rename_i i hi
      have h4 : i.size ≠ 0 := by simpa using h4
      simp only [istep] at hs
      split at hs
      · rename_i b q hq
        simp only [Option.some.injEq, Prod.mk.injEq] at hs; obtain ⟨rfl, rfl, rfl⟩ := hs
        exact (d_fad h hop h1 h2 h3 hi h4 (rep_fad_ptr off (X1 hm.2 hva hq).B)).goes k
      · rename_i cs hq
        simp only [Option.some.injEq, Prod.mk.injEq] at hs; obtain ⟨rfl, rfl, rfl⟩ := hs
        exact (d_fad h hop h1 h2 h3 hi h4 (rep_fad_ea off (X1 hm.2 hva hq).B)).goes k
      · cases hs
    · cases h4
  case h_22 T x f off n ag y =>
    simp only [Bool.and_eq_true] at hm
    obtain ⟨fs, F, h1, h2, h3⟩ := fieldB_spec hm.1
    simp only [Bool.and_eq_true, beq_iff_eq] at h3
    obtain ⟨d, q1, q2, q3, q4⟩ := cellB_spec h3.2
    simp only [istep] at hs
    split at hs
    · rename_i cs hq
      obtain ⟨q, hr, hs⟩ := map_some hs
      simp only [Prod.mk.injEq] at hs; obtain ⟨rfl, rfl, rfl⟩ := hs
      exact (d_fld h hop h1 h2 h3.1 q1 q2 q3 q4 (X1 hm.2 hva hq) hr hp).goes k
    · cases hs
  case h_23 T x y sz x' y' =>
    simp only [Bool.and_eq_true] at hm
    obtain ⟨e2, h1, h2⟩ := slB_spec hm.1.1
    obtain ⟨inf, h3, h4⟩ := szB_spec h2
    obtain ⟨v1, v2⟩ := app1 hva
    simp only [istep] at hs
    split at hs
    · rename_i t z xs kk n hq1 hq2
      simp only [Option.some.injEq, Prod.mk.injEq] at hs; obtain ⟨rfl, rfl, rfl⟩ := hs
      obtain ⟨rfl, hp⟩ := hp
      exact (d_iad h hop h1 h3 h4 (X1 hm.1.2 v1 hq1).B (X1 hm.2 v2 hq2).B.v_inv hp.1 hp.2).goes k
    · rename_i b q len kk n hq1 hq2
      simp only [Option.some.injEq, Prod.mk.injEq] at hs; obtain ⟨rfl, rfl, rfl⟩ := hs
      exact (d_iad_rs h hop h1 h3 h4 (X1 hm.1.2 v1 hq1).B (X1 hm.2 v2 hq2).B.v_inv hp.1 hp.2).goes k
    · cases hs
  case h_24 T x y n sz x' y' =>
    simp only [Bool.and_eq_true] at hm
    obtain ⟨v1, v2⟩ := app1 hva
    have hT := hm.1.1
    split at hT
    · rename_i n' e2 h1
      simp only [Bool.and_eq_true, beq_iff_eq] at hT
      obtain ⟨rfl, h2⟩ := hT
      obtain ⟨inf, h3, h4⟩ := szB_spec h2
      simp only [istep] at hs
      split at hs
      · rename_i b q kk n hq1 hq2
        simp only [Option.some.injEq, Prod.mk.injEq] at hs; obtain ⟨rfl, rfl, rfl⟩ := hs
        exact (d_iada h hop h1 h3 h4 (X1 hm.1.2 v1 hq1).B (X1 hm.2 v2 hq2).B.v_inv hp.1 hp.2).goes k
      · cases hs
    · cases hT
  case h_25 T x y x' y' =>
    simp only [Bool.and_eq_true] at hm
    obtain ⟨v1, v2⟩ := app1 hva
    simp only [istep] at hs
    split at hs
    · rename_i s kk n hq1 hq2
      simp only [Option.some.injEq, Prod.mk.injEq] at hs; obtain ⟨rfl, rfl, rfl⟩ := hs
      exact (d_idx h hop (strB_spec hm.1.1) (X1 hm.1.2 v1 hq1).B.v_inv (X1 hm.2 v2 hq2).B.v_inv hp.1 hp.2).goes k
    · cases hs
  case h_26 T x lo hi y lo' hi' =>
    simp only [Bool.and_eq_true] at hm
    obtain ⟨v1, v3⟩ := app1 hva
    obtain ⟨v1, v2⟩ := app1 v1
    simp only [istep] at hs
    split at hs
    · rename_i s hq
      split at hs
      · rename_i l u hl hu
        simp only [Option.some.injEq, Prod.mk.injEq] at hs; obtain ⟨rfl, rfl, rfl⟩ := hs
        exact (d_sls h hop (strB_spec hm.1.1.1) (X1 hm.1.1.2 v1 hq).B.v_inv (bnd_ok he hm.1.2 hl (allV_mem v2)) (bnd_ok he hm.2 hu (allV_mem v3)) hp.1 hp.2.1 hp.2.2).goes k
      · cases hs
    · cases hs
  case h_27 T x lo hi sz y lo' hi' =>
    simp only [Bool.and_eq_true] at hm
    obtain ⟨e2, h1, h2⟩ := slB_spec hm.1.1.1
    obtain ⟨inf, h3, h4⟩ := szB_spec h2
    obtain ⟨v1, v3⟩ := app1 hva
    obtain ⟨v1, v2⟩ := app1 v1
    simp only [istep] at hs
    split at hs
    · rename_i t z xs hq
      split at hs
      · rename_i l u hl hu
        simp only [Option.some.injEq, Prod.mk.injEq] at hs; obtain ⟨rfl, rfl, rfl⟩ := hs
        obtain ⟨rfl, hp⟩ := hp
        exact (d_sll h hop h1 h3 h4 (X1 hm.1.1.2 v1 hq).B (bnd_ok he hm.1.2 hl (allV_mem v2)) (bnd_ok he hm.2 hu (allV_mem v3)) hp.1 hp.2.1 hp.2.2).goes k
      · cases hs
    · cases hs
  case h_28 x T str y =>
    simp only [Bool.and_eq_true] at hm
    obtain ⟨hT, hm⟩ := hm
    simp only [istep] at hs
    split at hs
    · rename_i s hq
      simp only [Option.some.injEq, Prod.mk.injEq] at hs; obtain ⟨rfl, rfl, rfl⟩ := hs
      exact (d_len_s h hop (strB_spec (by simpa using hT)) (X1 hm hva hq).B.v_inv).goes k
    · rename_i t z xs hq
      simp only [Option.some.injEq, Prod.mk.injEq] at hs; obtain ⟨rfl, rfl, rfl⟩ := hs
      obtain ⟨e2, h1, _⟩ := slB_spec (p := fun _ => true) (by simpa using hT)
      obtain ⟨Ad, cap, g, off, u, hv, _⟩ := (X1 hm hva hq).B.sl_inv
      exact (d_len_l h hop h1 hv).goes k
    · rename_i b q len hq
      simp only [Option.some.injEq, Prod.mk.injEq] at hs; obtain ⟨rfl, rfl, rfl⟩ := hs
      obtain ⟨e2, h1, _⟩ := slB_spec (p := fun _ => true) (by simpa using hT)
      have hx := (X1 hm hva hq).B
      generalize hv : a.eval x = v at hx
      cases hx with
      | rs _ _ _ _ cap g hg hc hmm => exact (d_len_l h hop h1 hv).goes k
    · cases hs
  case h_29 x y T T' e' sz bytes x' y' =>
    simp only [Bool.and_eq_true, beq_iff_eq] at hm
    obtain ⟨⟨⟨⟨rfl, h1⟩, h2⟩, hm1⟩, hm2⟩ := hm
    obtain ⟨e2, hT, h1⟩ := slB_spec h1
    have : e2 = e' := by simpa using h1
    subst this
    obtain ⟨i, z, h3, h4, h5, h6, h7, h8, h9⟩ := elemB_spec h2
    obtain ⟨v1, v2⟩ := app1 hva
    simp only [istep] at hs
    split at hs
    · rename_i t zz xs t' z' ys hq1 hq2
      cases t with
      | no => cases hs
      | full =>
        simp only [Option.some.injEq, Prod.mk.injEq] at hs; obtain ⟨rfl, rfl, rfl⟩ := hs
        obtain ⟨rfl, rfl, hp⟩ := hp
        exact (d_app_full h hnm hop hT h3 h4 h5 h6 h7 h8 h9 (X1 hm1 v1 hq1).B (X1 hm2 v2 hq2).B hp).goes k
      | tk kk =>
        simp only [Option.some.injEq, Prod.mk.injEq] at hs; obtain ⟨rfl, rfl, rfl⟩ := hs
        obtain ⟨hkk, rfl, rfl, hp⟩ := hp
        exact (d_app_tk h hnm hop hT h3 h4 h5 h6 h7 h8 h9 (X1 hm1 v1 hq1).B (htk _ _ hkk) (X1 hm2 v2 hq2).B hp).goes k
    · cases hs
  case h_30 x j y j' =>
    simp only [Bool.and_eq_true, beq_iff_eq] at hm
    obtain ⟨rfl, hm⟩ := hm
    simp only [istep] at hs
    split at hs
    · rename_i vs hq
      obtain ⟨q, hr, hs⟩ := map_some hs
      simp only [Prod.mk.injEq] at hs; obtain ⟨rfl, rfl, rfl⟩ := hs
      exact (d_ext h hop (X1 hm hva hq) hr).goes k
    · cases hs
  case h_31 f os T g xs =>
    simp only [Bool.and_eq_true, beq_iff_eq] at hm
    obtain ⟨⟨rfl, hf⟩, hm⟩ := hm
    obtain ⟨l, hl, hs⟩ := bind_some hs
    obtain ⟨⟨p', r'⟩, hr, hs⟩ := map_some hs
    simp only [Prod.mk.injEq] at hs; obtain ⟨rfl, rfl, rfl⟩ := hs
    exact call_goes h hop hf (args_rep he hm hl (allV_mem hva)) (hsp.af hr hp) k
  case h_32 => cases hm
end
end Go.Proofs.YtbhingdlclfipaaDoor.Ab
