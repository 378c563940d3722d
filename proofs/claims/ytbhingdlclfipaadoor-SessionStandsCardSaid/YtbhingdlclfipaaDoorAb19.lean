/- An abstract calculus over pure data, part 19: from what a law's arguments read to data; from a function's contract to the law's statement. -/
import Derived.Test.YtbhingdlclfipaaDoorAb18
import Derived.Carry
import Derived.Deep.DeepHandedRow
import Derived.ProofKit
namespace Go.Proofs.YtbhingdlclfipaaDoor.Ab
open Go Go.RowKit Go.ChangeShapes
set_option linter.unusedVariables false
set_option linter.unusedSimpArgs false

def isStr (P : Program) (t : TypeId) : Bool := match P.underlying t with | some (.struct _) => true | _ => false
def packA : Bool → List D → A
  | true, ds => .agg ds
  | false, ds => .one (ds.headD (.v undef))
/-- A law's parameters: struct or not; what lies in it. -/
def params (P : Program) (n : Nat) (es : List TypeId) : List TypeId → Option (List (Bool × List Ty))
  | [] => some []
  | t :: r => (leaves P n t).bind fun us => if (us.all fun u => match u with | .sl e => es.contains e | _ => true) && (P.readableRec t && decide (t < P.types.size)) then (params P n es r).map ((isStr P t, us) :: ·) else none
def ArgsOk (P : Program) (B : Nat) : List (Bool × List Ty) → List A → Prop
  | [], [] => True
  | (b, us) :: r, a :: l => (∃ ds, OkL P B us ds ∧ a = packA b ds) ∧ ArgsOk P B r l
  | _, _ => False
def toldB (P : Program) (n : Nat) (es : List TypeId) : Bool := es.all fun e => match leaves P n e with | some ts => ts.length == P.cellsOf e && decide (0 < ts.length) && decide (0 < P.bytesOf e) && ts.all (fun u => match u with | .sl e' => es.contains e' | _ => true) | none => false
theorem told_of {P : Program} {n : Nat} {es : List TypeId} (h : toldB P n es = true) : Told P n es := by
  intro e he
  have := List.all_eq_true.1 h e he
  split at this
  · rename_i ts hts
    simp only [Bool.and_eq_true, beq_iff_eq, decide_eq_true_eq, List.all_eq_true] at this
    obtain ⟨⟨⟨h1, h2⟩, h3⟩, h4⟩ := this
    exact ⟨ts, hts, h1, h2, h3, fun e' he' => by simpa using h4 _ he'⟩
  · cases this
section
variable {H : Type} {B : Nat} {enc : TypeId × Value → H} {P : Program} {W : World}
theorem arg_rep {n0 n : Nat} {es : List TypeId} (told : Told P n0 es) {base : Nat} {t : TypeId} {us : List Ty} {v : Value} {d : DataW H} {ps : List MemPlace} (hl : leaves P n t = some us) (hin : ∀ e, Ty.sl e ∈ us → e ∈ es)
    (hval : Value.okWide P W .any base t v) (h : DataW.Trod enc P W 0 (fun _ => true) true t v d ps) (hw : (DataW.weights P t d).all (· ≤ reachBytes) = true) (hB : reachBytes ≤ B ∨ Rows.uptoBulk d ≤ B) :
    ∃ ds, OkL P B us ds ∧ RepB (pcW W) Nms.nil v (packA (isStr P t) ds) := by
  obtain ⟨fuel, h⟩ := h
  obtain ⟨ds, h1, h2⟩ := trod_rep told (fun _ => rfl) fuel n t _ d ps us h hl hin hw hB
  refine ⟨ds, h2, ?_⟩
  have one : ∀ u : Ty, us = [u] → v.cells.toList = [v] → isStr P t = false → RepB (pcW W) Nms.nil v (packA (isStr P t) ds) := by
    intro u hu hv hs
    subst hu
    obtain ⟨d', ds', rfl, _, h4⟩ := h2.cons_inv
    have := h4.nil_inv; subst this
    rw [hv] at h1
    obtain ⟨v', vs', e, h5, h6⟩ := h1.cons_inv
    injection e with e1 e2
    subst e1
    rw [hs]; exact h5
  cases n with
  | zero => simp [leaves] at hl
  | succ n =>
  simp only [leaves] at hl
  unfold Value.okWide at hval
  split at hl
  · rename_i hu
    simp only [Option.some.injEq] at hl
    simp only [hu, Cell.okWide, Cell.ok] at hval
    refine one _ hl.symm ?_ (by simp [isStr, hu])
    cases v <;> first | rfl | exact hval.elim
  · rename_i k hu
    simp only [Option.some.injEq] at hl
    simp only [hu, Cell.okWide, Cell.ok] at hval
    refine one _ hl.symm ?_ (by simp [isStr, hu])
    cases v <;> first | rfl | exact hval.elim
  · rename_i hu
    simp only [Option.some.injEq] at hl
    simp only [hu, Cell.okWide, Cell.ok] at hval
    refine one _ hl.symm ?_ (by simp [isStr, hu])
    cases v <;> first | rfl | exact hval.elim
  · rename_i e hu
    simp only [Option.some.injEq] at hl
    simp only [hu, Cell.okWide, Cell.ok] at hval
    refine one _ hl.symm ?_ (by simp [isStr, hu])
    cases v <;> first | rfl | exact hval.elim
  · rename_i fs hu
    simp only [hu] at hval
    obtain ⟨cs, rfl, _, _⟩ := hval
    have : isStr P t = true := by simp [isStr, hu]
    rw [this]
    exact ⟨cs, rfl, h1⟩
  · cases hl

theorem args_rep' {n0 : Nat} {es : List TypeId} (told : Told P n0 es) {base : Nat} : ∀ {ts : List TypeId} {us : List (Bool × List Ty)} {vs : List Value} {ds : List (DataW H)} {ps : List MemPlace}, params P n0 es ts = some us →
    (∀ (j : Nat) t v, ts[j]? = some t → vs[j]? = some v → Value.okWide P W .any base t v) → DataW.TrodAll enc P W 0 (fun _ => true) true ts vs ds ps → (DataW.weightsEach P ts ds).all (· ≤ reachBytes) = true → (reachBytes ≤ B ∨ Rows.uptoBulkAll ds ≤ B) →
    ∃ l, ArgsOk P B us l ∧ ArgsRep (pcW W) vs l
  | [], us, vs, ds, ps, hp, hval, h, hw, hB => by
    obtain ⟨rfl, rfl, rfl⟩ := trodAll_nil h
    simp only [params, Option.some.injEq] at hp; subst hp
    exact ⟨[], trivial, rfl, fun j a h => by simp at h⟩
  | t :: ts, us, vs, ds, ps, hp, hval, h, hw, hB => by
    obtain ⟨v, vs', d, ds', p, q, rfl, rfl, rfl, h1, h2⟩ := trodAll_cons h
    simp only [params] at hp
    obtain ⟨a, ha, hp⟩ := bind_some hp
    split at hp
    case isFalse => cases hp
    rename_i hc
    simp only [Bool.and_eq_true, List.all_eq_true] at hc
    obtain ⟨r, hr, rfl⟩ := map_some hp
    simp only [DataW.weightsEach, List.all_append, Bool.and_eq_true] at hw
    simp only [Rows.uptoBulkAll] at hB
    obtain ⟨da, h3, h4⟩ := arg_rep (B := B) told ha (fun e he => by simpa using hc.1 _ he) (hval 0 t v rfl rfl) h1 hw.1 (by omega)
    obtain ⟨l, h5, h6⟩ := args_rep' told hr (fun j t v ht hv => hval (j + 1) t v (by simpa using ht) (by simpa using hv)) h2 hw.2 (by omega)
    refine ⟨packA (isStr P t) da :: l, ⟨⟨da, h3, rfl⟩, h5⟩, by simp [h6.1], fun j a hj => ?_⟩
    cases j with
    | zero => simp only [List.getElem?_cons_zero, Option.some.injEq] at hj; subst hj; exact ⟨v, rfl, h4⟩
    | succ j => simpa using h6.2 j a (by simpa using hj)

theorem below_all (hl : laidOutB P = true) {W' : World} (hb : Below W.heap.size W W') {n : Nat} {es : List TypeId} : ∀ {ts : List TypeId} {us : List (Bool × List Ty)} {vs : List Value} {ds : List (DataW H)} {ps : List MemPlace}, params P n es ts = some us →
    DataW.TrodAll enc P W 0 (fun _ => true) true ts vs ds ps → (∀ x ∈ ps, x.block < W.heap.size) → DataW.TrodAll enc P W' 0 (fun b => decide (b < W.heap.size)) true ts vs ds ps
  | [], us, vs, ds, ps, hp, h, hlt => by
    obtain ⟨rfl, rfl, rfl⟩ := trodAll_nil h
    rfl
  | t :: ts, us, vs, ds, ps, hp, h, hlt => by
    obtain ⟨v, vs', d, ds', p, q, rfl, rfl, rfl, h1, h2⟩ := trodAll_cons h
    simp only [params] at hp
    obtain ⟨a, ha, hp⟩ := bind_some hp
    split at hp
    case isFalse => cases hp
    rename_i hc
    simp only [Bool.and_eq_true, decide_eq_true_eq] at hc
    obtain ⟨r, hr, _⟩ := map_some hp
    exact ⟨p, q, Below.trod hl hc.2.1 hc.2.2 h1 hb (fun x hx => hlt x (List.mem_append.2 (.inl hx))), below_all hl hb hr h2 (fun x hx => hlt x (List.mem_append.2 (.inr hx))), rfl⟩

theorem trod_len {w : World} {b : Nat} {sp : Nat → Bool} {held : Bool} : ∀ {ts : List TypeId} {vs : List Value} {ds : List (DataW H)} {ps : List MemPlace}, DataW.TrodAll enc P w b sp held ts vs ds ps → ds.length = ts.length
  | [], vs, ds, ps, h => by obtain ⟨rfl, rfl, rfl⟩ := trodAll_nil h; rfl
  | t :: ts, vs, ds, ps, h => by
    obtain ⟨v, vs', d, ds', p, q, rfl, rfl, rfl, h1, h2⟩ := trodAll_cons h
    simp [trod_len h2]
/-- A law's contract. -/
theorem law_of {f : FuncId} {fn : Func} {s : ChangeSpec} {n0 : Nat} {es : List TypeId} {us : List (Bool × List Ty)} {gl : List (Nat × Nat × Value)} {tb : TypeId} (hlaid : laidOutB P = true) (told : Told P n0 es) (hpar : params P n0 es fn.params.toList = some us)
    (hres : fn.resultTypes = #[tb]) (htb : P.underlying tb = some .bool) (hsv : s.vars = []) (hfn : ∀ (ds : List (DataW H)), ds.length = fn.params.toList.length → s.fn H ds = { results := [.lit (.bool true)], args := ds })
    (haf : ∀ l, ArgsOk P B us l → AF P gl f l (.one (.v (.bool true)))) {base : Nat} {args : Array Value} {ds gs : List (DataW H)} {before : List MemPlace} {apart fresh handsOn : Bool}
    (hval : ∀ (j : Nat) t v, fn.params[j]? = some t → args[j]? = some v → Value.okWide P W .any base t v) (hW : DataW.Whole enc P fn.params.toList s.vars apart W args.toList ds gs before)
    (hw : (DataW.weightsEach P (fn.params.toList ++ (OpenSpec.ofChange s).bare.plain.varTypes P) (ds ++ gs)).all (· ≤ reachBytes) = true) (hB : reachBytes ≤ B ∨ Rows.uptoBulkAll (ds ++ gs) ≤ B) (hgl : ∀ q ∈ gl, W.cell? ⟨q.1, q.2.1, none⟩ = some q.2.2) :
    Calls P f args W fun e W' => ∃ v, e = .returned v ∧ s.post enc P fn apart fresh handsOn false W args v W' := by
  have hW' := hW
  obtain ⟨p, q, hA, hV, rfl, hfz, hnd⟩ := hW
  rw [hsv] at hV
  obtain ⟨rfl, rfl⟩ := trodVars_none hV
  have hvt : (OpenSpec.ofChange s).bare.plain.varTypes P = [] := by
    show (s.vars.filterMap _) = []
    rw [hsv]; rfl
  rw [hvt] at hw
  simp only [List.append_nil] at hw hB
  obtain ⟨l, h1, h2⟩ := args_rep' (B := B) told hpar (fun j t v ht hv => hval j t v (by rw [← Array.getElem?_toList]; exact ht) (by rw [← Array.getElem?_toList]; exact hv)) hA hw hB
  refine (haf l h1 (pcW W) W args (fun _ _ _ e => e) (fun q hq => hgl q hq) h2).mono ?_
  intro e W' he
  cases e with
  | panicked c => exact he.elim
  | outgrown => exact he.elim
  | returned v =>
    obtain ⟨pc', hleft, hrep⟩ := he
    have hv := Rep.v_inv hrep
    subst hv
    have hb : Below W.heap.size W W' := ⟨hleft.base.1, hleft.base.2.1, hleft.base.2.2, hleft.size, fun k hk => hleft.heap k hk⟩
    refine ⟨_, rfl, ds, [], p ++ [], [], p, [], hW', ?_, ?_, ?_, ?_, fun h => by cases h⟩
    · rw [List.append_nil, hfn ds (trod_len hA), hres]
      exact trodAll_mk1 (shut_bool htb _)
    · rw [List.append_nil, hfn ds (trod_len hA)]
      exact below_all hlaid hb hpar hA fun x hx => hW'.lt x (List.mem_append.2 (.inl hx))
    · rw [hsv, List.append_nil, hfn ds (trod_len hA)]
      exact rfl
    · exact hb.frame _
end
end Go.Proofs.YtbhingdlclfipaaDoor.Ab
