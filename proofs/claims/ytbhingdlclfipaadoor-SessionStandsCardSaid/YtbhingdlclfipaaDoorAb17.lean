/- An abstract calculus over pure data, part 17: contracts of the library's functions as ours; the words that simp takes to reckon. -/
import Derived.Test.YtbhingdlclfipaaDoorAb16
namespace Go.Proofs.YtbhingdlclfipaaDoor.Ab
open Go Go.RowKit
set_option linter.unusedVariables false
set_option linter.unusedSimpArgs false

theorem Left.of_below {pc : Nat → Nat → Option Value} {w w' : World} (hpc : ∀ g i u, pc g i = some u → w.cell? ⟨g, i, none⟩ = some u) (h : Below w.heap.size w w') : Left pc pc w w' := by
  refine ⟨fun _ _ _ e => e, fun g i u e => ?_, fun g hg => h.block g hg, fun _ _ _ => rfl, h.size, ⟨h.os, h.tape, h.output⟩⟩
  have hlt : g < w.heap.size := World.block_lt_of_cell? _ _ (hpc g i u e)
  rw [cell_same (h.block g hlt)]; exact hpc g i u e
theorem args_vals {pc : Nat → Nat → Option Value} {vs : Array Value} {us : List Value} (h : ArgsRep pc vs.toList (us.map fun u => A.one (.v u))) : vs = us.toArray := by
  apply Array.ext'
  apply List.ext_getElem?
  intro j
  rcases Nat.lt_or_ge j us.length with hj | hj
  · obtain ⟨v, h1, h2⟩ := h.2 j (.one (.v us[j])) (by simp [hj])
    have := Rep.v_inv h2
    subst this
    rw [h1]; simp [hj]
  · have h1 := h.1
    simp only [List.length_map] at h1
    rw [List.getElem?_eq_none (by omega), List.getElem?_eq_none (by simpa using hj)]
/-- A library function on plain values. -/
theorem AF_lib {P : Program} {gl : List (Nat × Nat × Value)} {f : FuncId} (us : List Value) (r : Value) (hr : r.oneCell' = true) (h : ∀ w : World, (∀ q ∈ gl, w.cell? ⟨q.1, q.2.1, none⟩ = some q.2.2) → Calls P f us.toArray w fun e w' => e = .returned r ∧ Below w.heap.size w w') :
    AF P gl f (us.map fun u => A.one (.v u)) (.one (.v r)) := by
  intro pc w vs hpc hgl hargs
  rw [args_vals hargs]
  refine (h w fun q hq => hpc _ _ _ (hgl q hq)).mono ?_
  rintro e w' ⟨rfl, hb⟩
  exact ⟨pc, Left.of_below hpc hb, Rep.v _ _ hr⟩

theorem SpOK.none {P : Program} {gl : List (Nat × Nat × Value)} : SpOK P gl (fun _ _ => Option.none) := fun _ _ _ _ h => by cases h
/-- One function more. -/
def spc (f : FuncId) (g : List A → Option (Prop × A)) (sp : Sp) : Sp := fun k l => match l with | .tup _ :: _ => sp k l | _ => if k = f then g l else sp k l
theorem SpOK.cons {P : Program} {gl : List (Nat × Nat × Value)} {f : FuncId} {g : List A → Option (Prop × A)} {sp : Sp} (h : ∀ l p r, g l = some (p, r) → p → AF P gl f l r) (k : SpOK P gl sp) : SpOK P gl (spc f g sp) := by
  intro f' l p r hs hp
  unfold spc at hs
  split at hs
  · exact k f' _ p r hs hp
  · rename_i hnt
    split at hs
    · rename_i e; subst e
      have h1 := h l p r hs hp
      cases l with
      | nil => exact h1
      | cons a l =>
        cases a with
        | one d => exact h1
        | agg cs => exact h1
        | tup q => exact (hnt q l rfl).elim
    · exact k f' l p r hs hp
/-- One function more, that is handed variables. -/
def spp (f : FuncId) (g : List A → Option (Prop × A)) (sp : Sp) : Sp := fun k l => match l with | .tup [] :: l' => if k = f then g l' else sp k l | _ => sp k l
theorem SpOK.consP {P : Program} {gl : List (Nat × Nat × Value)} {f : FuncId} {g : List A → Option (Prop × A)} {sp : Sp} (h : ∀ l p r, g l = some (p, r) → p → ∃ r0 css, r = .tup (r0 :: css.map .agg) ∧ AFP P gl f l r0 css) (k : SpOK P gl sp) : SpOK P gl (spp f g sp) := by
  intro f' l p r hs hp
  unfold spp at hs
  split at hs
  · split at hs
    · rename_i e; subst e; exact h _ p r hs hp
    · exact k f' _ p r hs hp
  · exact k f' _ p r hs hp
/-- One function more, that is handed a row. -/
def spt (f : FuncId) (e sz : Nat) (g : List (List D) → List A → Option (Prop × List (List D))) (sp : Sp) : Sp := fun k l => match l with | .tup [.one (.mp e')] :: .one (.sl .full sz' xs) :: l' => if k = f ∧ e' = e ∧ sz' = sz then (g xs l').map fun (p, ys) => (p, .one (.sl .full sz ys)) else sp k l | _ => sp k l
theorem SpOK.consT {P : Program} {gl : List (Nat × Nat × Value)} {f : FuncId} {e sz : Nat} {g : List (List D) → List A → Option (Prop × List (List D))} {sp : Sp} (h : ∀ xs l p ys, g xs l = some (p, ys) → p → AFT P gl f e sz xs l ys) (k : SpOK P gl sp) : SpOK P gl (spt f e sz g sp) := by
  intro f' l p r hs hp
  unfold spt at hs
  split at hs
  · split at hs
    · rename_i e; obtain ⟨rfl, rfl, rfl⟩ := e
      obtain ⟨⟨p', ys⟩, hg, he⟩ := map_some hs
      simp only [Prod.mk.injEq] at he
      obtain ⟨rfl, rfl⟩ := he
      exact ⟨ys, rfl, h _ _ _ _ hg hp⟩
    · exact k f' _ p r hs hp
  · exact k f' _ p r hs hp
/-! ### reckoning -/
section
variable {sp : Sp} {S : St} {K : Ex → St → Prop}
theorem awp_skip : awp sp .skip S K = K .n S := rfl
theorem awp_reg {d : Bool} {rs : List R} : awp sp (.reg d rs) S K = (match rrun sp S.nx 0 S.nx [] rs S with | some (p, S') => p ∧ K .n { S' with nx := S.nx + rs.length } | none => False) := rfl
theorem awp_regp {rs : List RP} : awp sp (.regp rs) S K = (match prun sp S.nx 0 rs S with | some (p, S') => p ∧ K .n { S' with nx := S.nx + rs.length } | none => False) := rfl
def seqK (sp : Sp) (b : C) (K : Ex → St → Prop) (e : Ex) (S' : St) : Prop := match e with | .n => awp sp b S' K | .x i => K (.x i) S' | .r => K .r S'
theorem seqK_n {b : C} : seqK sp b K .n S = awp sp b S K := rfl
theorem seqK_x {b : C} {i : Nat} : seqK sp b K (.x i) S = K (.x i) S := rfl
theorem seqK_r {b : C} : seqK sp b K .r S = K .r S := rfl
theorem awp_seq {a b : C} : awp sp (.seq a b) S K = awp sp a S (seqK sp b K) := rfl
theorem awp_cond {x : X} {t e : C} : awp sp (.cond x t e) S K = (match x.val S.env with | some (.one (.v (.bool b))) => allV S.va x.slot ∧ (if b = true then awp sp t S K else awp sp e S K) | _ => False) := by
  show (match x.val S.env with | some (.one (.v (.bool b))) => allV S.va x.slot ∧ (b = true → awp sp t S K) ∧ (b = false → awp sp e S K) | _ => False) = _
  split
  · rename_i b _
    cases b <;> simp
  · rfl
def blockK (id : Nat) (K : Ex → St → Prop) (e : Ex) (S' : St) : Prop := match e with | .n => K .n S' | .x i => if i = id then K .n S' else K (.x i) S' | .r => K .r S'
theorem blockK_n {id : Nat} : blockK id K .n S = K .n S := rfl
theorem blockK_x {id i : Nat} : blockK id K (.x i) S = if i = id then K .n S else K (.x i) S := rfl
theorem blockK_r {id : Nat} : blockK id K .r S = K .r S := rfl
theorem awp_block {id : Nat} {c : C} : awp sp (.block id c) S K = awp sp c S (blockK id K) := rfl
theorem awp_exit {id : Nat} : awp sp (.exit id) S K = K (.x id) S := rfl
theorem awp_ret : awp sp .ret S K = K .r S := rfl
def loopK (I : Nat → St → Prop) (k : Nat) (K : Ex → St → Prop) (e : Ex) (S' : St) : Prop := match e with | .n => ∃ m, m < k ∧ I m S' | .x i => K (.x i) S' | .r => K .r S'
theorem loopK_n {I : Nat → St → Prop} {k : Nat} : loopK I k K .n S = ∃ m, m < k ∧ I m S := rfl
theorem loopK_x {I : Nat → St → Prop} {k i : Nat} : loopK I k K (.x i) S = K (.x i) S := rfl
theorem loopK_r {I : Nat → St → Prop} {k : Nat} : loopK I k K .r S = K .r S := rfl
theorem awp_loop {c : C} (I : Nat → St → Prop) (h0 : ∃ k, I k S) (hr : ∀ k S', I k S' → awp sp c S' (loopK I k K)) : awp sp (.loop c) S K := ⟨I, h0, hr⟩
/-- A loop that is left in its first round. -/
def onceK (K : Ex → St → Prop) (e : Ex) (S' : St) : Prop := match e with | .n => False | .x i => K (.x i) S' | .r => K .r S'
theorem onceK_n : onceK K .n S = False := rfl
theorem onceK_x {i : Nat} : onceK K (.x i) S = K (.x i) S := rfl
theorem onceK_r : onceK K .r S = K .r S := rfl
theorem awp_mono : ∀ (c : C) (S : St) (K K' : Ex → St → Prop), (∀ e S', K e S' → K' e S') → awp sp c S K → awp sp c S K'
  | .skip, S, K, K', h, hk => h _ _ hk
  | .reg d rs, S, K, K', h, hk => by
    simp only [awp_reg] at hk ⊢
    split at hk
    · exact ⟨hk.1, h _ _ hk.2⟩
    · exact hk.elim
  | .regp rs, S, K, K', h, hk => by
    simp only [awp_regp] at hk ⊢
    split at hk
    · exact ⟨hk.1, h _ _ hk.2⟩
    · exact hk.elim
  | .seq a b, S, K, K', h, hk => by
    rw [awp_seq] at hk ⊢
    refine awp_mono a S _ _ ?_ hk
    intro e S' he
    cases e with
    | n => exact awp_mono b S' _ _ h he
    | x i => exact h _ _ he
    | r => exact h _ _ he
  | .cond x t e, S, K, K', h, hk => by
    simp only [awp_cond] at hk ⊢
    split at hk
    · refine ⟨hk.1, ?_⟩
      split
      · rename_i hb; exact awp_mono t S _ _ h (by have := hk.2; rwa [if_pos hb] at this)
      · rename_i hb; exact awp_mono e S _ _ h (by have := hk.2; rwa [if_neg hb] at this)
    · exact hk.elim
  | .block id c, S, K, K', h, hk => by
    rw [awp_block] at hk ⊢
    refine awp_mono c S _ _ ?_ hk
    intro e S' he
    cases e with
    | n => exact h _ _ he
    | x i =>
      rw [blockK_x] at he ⊢
      split
      · rename_i hi; rw [if_pos hi] at he; exact h _ _ he
      · rename_i hi; rw [if_neg hi] at he; exact h _ _ he
    | r => exact h _ _ he
  | .loop c, S, K, K', h, hk => by
    obtain ⟨I, h0, hr⟩ := hk
    refine ⟨I, h0, fun k S' hI => awp_mono c S' _ _ ?_ (hr k S' hI)⟩
    intro e S'' he
    cases e with
    | n => exact he
    | x i => exact h _ _ he
    | r => exact h _ _ he
  | .exit id, S, K, K', h, hk => h _ _ hk
  | .ret, S, K, K', h, hk => h _ _ hk
theorem awp_once {c : C} (h : awp sp c S (onceK K)) : awp sp (.loop c) S K := by
  refine awp_loop (fun _ S' => S' = S) ⟨0, rfl⟩ ?_
  intro k S' hS
  subst hS
  refine awp_mono c _ _ _ ?_ h
  intro e S'' he
  cases e with
  | n => exact he.elim
  | x i => exact he
  | r => exact he
def endK (res : List Res) (r : A) (e : Ex) (S : St) : Prop := match e with | .x _ => False | _ => match resL S res with | some (p, l) => p ∧ pack l = r | none => False
theorem endK_n {res : List Res} {r : A} : endK res r .n S = (match resL S res with | some (p, l) => p ∧ pack l = r | none => False) := rfl
theorem endK_r {res : List Res} {r : A} : endK res r .r S = (match resL S res with | some (p, l) => p ∧ pack l = r | none => False) := rfl
theorem AF_by {P : Program} {gl : List (Nat × Nat × Value)} (hsp : SpOK P gl sp) (hmix : P.follows .mixedOrders = true) {f : FuncId} {F : Fun} (hm : mtF P f F = true) {l : List A} {r : A} (h : awp sp F.code (St.start l) (endK F.res r)) : AF P gl f l r :=
  AF_of hsp hmix hm (by
    have e : endK F.res r = Ends F r := by funext e S; cases e <;> rfl
    rw [← e]; exact h)
def endPK (res : List Res) (r : A) (Ts : List TypeId) (css : List (List D)) (e : Ex) (S : St) : Prop := match e with | .x _ => False | _ => (match resL S res with | some (p, l) => p ∧ pack l = r | none => False) ∧ outL S 0 Ts css
theorem endPK_n {res : List Res} {r : A} {Ts : List TypeId} {css : List (List D)} : endPK res r Ts css .n S = ((match resL S res with | some (p, l) => p ∧ pack l = r | none => False) ∧ outL S 0 Ts css) := rfl
theorem endPK_r {res : List Res} {r : A} {Ts : List TypeId} {css : List (List D)} : endPK res r Ts css .r S = ((match resL S res with | some (p, l) => p ∧ pack l = r | none => False) ∧ outL S 0 Ts css) := rfl
theorem AFP_by {P : Program} {gl : List (Nat × Nat × Value)} (hsp : SpOK P gl sp) (hmix : P.follows .mixedOrders = true) {f : FuncId} {F : Fun} (hm : mtF P f F = true) {l : List A} {r : A} {css : List (List D)} (hc : nPtr l = css.length) (h : ∀ Ts : List TypeId, Ts.length = css.length → awp sp F.code (St.startP Ts l) (endPK F.res r Ts css)) : AFP P gl f l r css :=
  AFP_of hsp hmix hm (fun Ts hT => by
    have e : endPK F.res r Ts css = EndsP F r Ts css := by funext e S; cases e <;> rfl
    rw [← e]; exact h Ts hT) hc
theorem endTK_n {e : TypeId} {sz : Nat} {ys : List (List D)} {s : Nat} : endTK e sz ys s .n S = (match S.env s with | some (.one (.sl (.tk k) sz' zs)) => S.va s ∧ sz' = sz ∧ zs = ys ∧ S.tk k = some (e, sz) | _ => False) := rfl
theorem endTK_r {e : TypeId} {sz : Nat} {ys : List (List D)} {s : Nat} : endTK e sz ys s .r S = (match S.env s with | some (.one (.sl (.tk k) sz' zs)) => S.va s ∧ sz' = sz ∧ zs = ys ∧ S.tk k = some (e, sz) | _ => False) := rfl
end
attribute [simp] touch apart awp_skip awp_reg awp_seq awp_cond awp_block awp_exit awp_ret seqK_n seqK_x seqK_r blockK_n blockK_x blockK_r loopK_n loopK_x loopK_r endK_n endK_r onceK_n onceK_x onceK_r rrun rstep gd istep X.val St.start setE setV upd_apply cutB effNil awp_regp prun pstep pargs wrL spp spt pEnv pBx St.startP outL endPK_n endPK_r kstep K.slots St.startT endTK_n endTK_r effInert St.eff Eff.nil I.need I.slots allV X.slot A.flat A.cells cellsAt elems parts args cloL clfL D.clo D.clf A.clo A.clf setL fillL partsOK bnd binV unV eqC resL res1 pack spc
end Go.Proofs.YtbhingdlclfipaaDoor.Ab
