/- An abstract calculus over pure data, part 4: the code's own operations do what part 3 says (values, variables in memory, reads). -/
import Derived.Test.YtbhingdlclfipaaDoorAb3
import Derived.Laws.BytesArg
import Derived.Lib.ConvBytes
import Derived.Laws.Slices
import Derived.Laws.Concat
import Derived.Laws.Entries
import Derived.WalkKit
namespace Go.Proofs.YtbhingdlclfipaaDoor.Ab
open Go Go.RowKit
set_option linter.unusedVariables false
set_option linter.unusedSimpArgs false

def vEq : Value → Value → Bool
  | .bool a, .bool b => a == b
  | .int k a, .int k' b => k == k' && a == b
  | .string a, .string b => a.data == b.data
  | .pointer none, .pointer none => true
  | .nilFunc, .nilFunc => true
  | .nilIface, .nilIface => true
  | .map none, .map none => true
  | _, _ => false
theorem vEq_eq {u v : Value} (h : vEq u v = true) : u = v ∧ v.oneCell' = true := by
  unfold vEq at h
  split at h <;> simp_all [Value.oneCell']
  exact ByteArray.ext h
def constD : Value → D → Bool
  | .slice none 0 0, .sl .full _ [] => true
  | .slice none 0 0, .sl .no _ [] => true
  | u, .v u' => vEq u u'
  | _, _ => false
theorem rep_nil (pc : Nat → Nat → Option Value) (N : Nms) (t : Tk) (ht : t = .full ∨ t = .no) (sz : Nat) : Rep pc N (.slice none 0 0) (.sl t sz []) :=
  Rep.sl N none 0 t sz [] 0 0 (fun _ _ => undef) (.inl rfl) (by simp) (Nat.le_refl _) (Nat.zero_le _) (by simp) (by simp) (by rcases ht with rfl | rfl <;> first | rfl | trivial)
theorem constD_rep {pc : Nat → Nat → Option Value} {N : Nms} {u : Value} {d : D} (h : constD u d = true) : Rep pc N u d := by
  unfold constD at h
  split at h
  · exact rep_nil _ _ _ (.inl rfl) _
  · exact rep_nil _ _ _ (.inr rfl) _
  · obtain ⟨rfl, h1⟩ := vEq_eq h; exact .v _ _ h1
  · cases h
def constL : List Value → List D → Bool
  | [], [] => true
  | u :: us, d :: ds => constD u d && constL us ds
  | _, _ => false
theorem constL_rep {pc : Nat → Nat → Option Value} {N : Nms} : ∀ {us : List Value} {ds : List D}, constL us ds = true → RepL pc N us ds
  | [], [], _ => RepL.nil _ _
  | u :: us, d :: ds, h => by
    simp only [constL, Bool.and_eq_true] at h
    exact RepL.cons (constD_rep h.1) (constL_rep h.2)
  | [], d :: ds, h => by simp [constL] at h
  | u :: us, [], h => by simp [constL] at h

/-- The code's operand is ours. -/
def mtX : Operand → X → Bool
  | .tmp a, .t b => a == b
  | .const (.agg us), .c (.agg ds) => constL us.toList ds
  | .const u, .c (.one d) => constD u d
  | .func f, .c (.one (.fn (.func g) [] [])) => f == g
  | _, _ => false
theorem mtX_rep {pc : Nat → Nat → Option Value} {N : Nms} {env : Nat → Option A} {va : Nat → Prop} {a : Act} {y : Operand} {x : X} {r : A} (hm : mtX y x = true) (hv : x.val env = some r) (hva : ∀ n ∈ x.slot, va n) (he : EnvRep pc N env va a.tmps) : RepA pc N (a.eval y) r := by
  unfold mtX at hm
  split at hm
  · rename_i t b
    have hb : t = b := by simpa using hm
    subst hb
    obtain ⟨v, h1, h2⟩ := (he t r hv).1 (hva t (by simp [X.slot]))
    have : a.eval (.tmp t) = v := by simp [Act.eval, h1]
    rw [this]; exact h2
  · rename_i us ds
    simp only [X.val, Option.some.injEq] at hv
    subst hv
    exact ⟨us, rfl, constL_rep hm⟩
  · rename_i u d _
    simp only [X.val, Option.some.injEq] at hv
    subst hv
    exact constD_rep (pc := pc) (N := N) hm
  · rename_i f g
    have hb : f = g := by simpa using hm
    subst hb
    simp only [X.val, Option.some.injEq] at hv
    subst hv
    exact Rep.fn N (.func f) [] [] #[] #[] rfl rfl (by simp) (by simp)
  · cases hm
theorem RepA.B {pc : Nat → Nat → Option Value} {N : Nms} {v : Value} {d : D} (h : RepA pc N v (.one d)) : Rep pc N v d := h

def nextOf : Option Value → Next
  | some v => .value v
  | none => .skip
def RepO (pc : Nat → Nat → Option Value) (N : Nms) : Option Value → Option A → Prop
  | some v, some a => RepA pc N v a
  | none, none => True
  | _, _ => False
/-- What is shown of an operation. -/
def Done (P : Program) (o : Oper) (ev : Operand → Value) (M : Gh) (N : Nms) (S : St) (fr : Nat → Prop) (w : World) (nm : Nat) (r : Option A) (e : Eff) : Prop :=
  ∃ ov w' M' N' own', (execOp ev o).run P w = .ok (nextOf ov) w' ∧ M.Le M' ∧ N.Le N' ∧ SimO M' N' (S.eff nm e) (fun n => fr n ∧ n ≠ nm) own' w' ∧ RepO M'.pc N' ov r

theorem RepL.whole {pc : Nat → Nat → Option Value} {N : Nms} {us : List Value} {cs : List D} (h : RepL pc N us cs) : RepL pc N (us.take cs.length) cs := by
  rw [List.take_of_length_le (Nat.le_of_eq h.1)]; exact h

section
variable {P : Program} {o : Oper} {ev : Operand → Value} {M : Gh} {N : Nms} {S : St} {fr : Nat → Prop} {own : Nat → Option Ow} {w : World} {nm : Nat}
theorem St.eff_nil (S : St) (nm : Nat) : S.eff nm .nil = S := rfl
theorem done_pure {v : Value} {r : A} (h : SimO M N S fr own w) (hr : (execOp ev o).run P w = .ok (.value v) w) (hv : RepA M.pc N v r) : Done P o ev M N S fr w nm (some r) .nil :=
  ⟨some v, w, M, N, own, hr, Gh.Le.refl _, Nms.Le.refl _, h.later fun _ hn => hn.1, hv⟩

/-! ### moves, choices -/
theorem d_mv {x : Operand} {r : A} (h : SimO M N S fr own w) (ho : o.op = .move x ∨ o.op = .assign x) (hx : RepA M.pc N (ev x) r) : Done P o ev M N S fr w nm (some r) .nil := by
  refine done_pure h ?_ hx
  rcases ho with ho | ho <;> simp [execOp, ho]
theorem d_pick {c x y : Operand} {t : Bool} {r : A} (h : SimO M N S fr own w) (ho : o.op = .pick c x y) (hc : ev c = .bool t) (hr : RepA M.pc N (if t = true then ev x else ev y) r) : Done P o ev M N S fr w nm (some r) .nil := by
  refine done_pure h ?_ hr
  simp [execOp, ho, hc, asBool]
/-! ### variables in memory -/
theorem d_alloc {T : TypeId} {zs : List D} {i : TypeInfo} {z : Value} (h : SimO M N S fr own w) (hnm : fr nm) (ho : o.op = .alloc T) (hi : P.info? T = some i) (hz : i.zero = some z) (hc : constL z.cells.toList zs = true) :
    Done P o ev M N S fr w nm (some (.one (.ptr nm 0))) { nb := some (.cells T zs) } := by
  have one := One.alloc w (.cells z.cells T)
  refine ⟨some (.pointer (some ⟨w.heap.size, 0, none⟩)), _, M, N.box nm w.heap.size, _, ?_, Gh.Le.refl _, Nms.le_box (h.fresh nm hnm).1, h.newBox hnm one (b := .cells T zs) ⟨z.cells, (0, 0), rfl, .inl rfl, (constL_rep hc).whole⟩, ?_⟩
  · simp [execOp, ho, Instr.alloc, zeroValue, typeInfo, hi, hz, newVar, newRow, nextOf]
  · exact Rep.ptr _ nm 0 _ (upd_same _ _ _)
theorem d_box {T : TypeId} {x : Operand} {r : A} (h : SimO M N S fr own w) (hnm : fr nm) (ho : o.op = .box T x) (hx : RepB M.pc N (ev x) r) :
    Done P o ev M N S fr w nm (some (.one (.ptr nm 0))) { nb := some (.cells T r.cells) } := by
  have one := One.alloc w (.cells (ev x).cells T)
  refine ⟨some (.pointer (some ⟨w.heap.size, 0, none⟩)), _, M, N.box nm w.heap.size, _, ?_, Gh.Le.refl _, Nms.le_box (h.fresh nm hnm).1, h.newBox hnm one (b := .cells T r.cells) ⟨(ev x).cells, (0, 0), rfl, .inl rfl, (RepA.cells hx).whole⟩, ?_⟩
  · simp [execOp, ho, Instr.box, newVar, newRow, nextOf]
  · exact Rep.ptr _ nm 0 _ (upd_same _ _ _)

/-- Cells that lie somewhere, read as one value. -/
def loadedV (us : List Value) : Bool → Value
  | true => .agg us.toArray
  | false => us.getD 0 undef
def isAggB (P : Program) (t : TypeId) : Bool := match P.underlying t with | some (.struct _) | some (.array _ _) => true | _ => false
theorem run_isAgg {t : TypeId} {d : TypeDesc} (hd : P.underlying t = some d) : (isAgg t).run P w = .ok (isAggB P t) w := by
  unfold isAgg isAggB
  simp only [Sem.run_bind, run_underlying hd, Result.andThen_ok, hd]
  cases d <;> rfl
theorem run_loadVar_list {t : TypeId} {d : TypeDesc} (hd : P.underlying t = some d) (us : List Value) (hs : (P.info? t).map (·.size) = some us.length) (ag : Bool) (hag : isAggB P t = ag) (h1 : ag = false → us.length = 1) {g o : Nat}
    (hc : ∀ (j : Nat) u, us[j]? = some u → w.cell? ⟨g, o + j, none⟩ = some u) :
    (loadVar t ⟨g, o, none⟩).run P w = .ok (loadedV us ag) w := by
  have hc' : ∀ (j : Nat) u, us[j]? = some u → w.cell? ((⟨g, o, none⟩ : Addr).add j) = some u := fun j u hu => by rw [Addr.add_lit]; exact hc j u hu
  obtain ⟨i, hi, hi2⟩ := Option.map_eq_some_iff.1 hs
  unfold loadVar
  cases ag with
  | true =>
    have hl := run_loadCells_list (P := P) w ⟨g, o, none⟩ us hc'
    simp [run_isAgg hd, hag, sizeOf, typeInfo, hi, hi2, hl, loadedV]
  | false =>
    have hl := h1 rfl
    obtain ⟨u, rfl⟩ := List.length_eq_one_iff.1 hl
    have := hc 0 u rfl
    simp [run_isAgg hd, hag, load, Sem.run, loadedV] at this ⊢
    rw [this]
theorem repA_cellsAt {pc : Nat → Nat → Option Value} {us : List Value} {cs : List D} (h : RepL pc N us cs) {off n : Nat} {ag : Bool} {r : A} (hr : cellsAt cs off n ag = some r) (hn : ag = false → n = 1) (hlen : off + n ≤ cs.length) :
    RepA pc N (loadedV ((us.drop off).take n) ag) r := by
  cases ag with
  | true =>
    simp only [cellsAt, Option.some.injEq] at hr
    subst hr
    exact ⟨_, rfl, (h.drop off).take n⟩
  | false =>
    have := hn rfl; subst this
    simp only [cellsAt] at hr
    obtain ⟨d, hd, rfl⟩ := Option.map_eq_some_iff.1 hr
    obtain ⟨v, hv, hrep⟩ := h.2 off d hd
    have : ((us.drop off).take 1).getD 0 undef = v := by simp [List.getD, List.getElem?_take, hv]
    simp only [loadedV, this]
    exact hrep
theorem Rep.ptr_inv {pc : Nat → Nat → Option Value} {N : Nms} {v : Value} {n off : Nat} (h : Rep pc N v (.ptr n off)) : ∃ g, N.bx n = some g ∧ v = .pointer (some ⟨g, off, none⟩) := by
  cases h with
  | ptr _ _ _ g h => exact ⟨g, h, rfl⟩
theorem Rep.v_inv {pc : Nat → Nat → Option Value} {N : Nms} {v u : Value} (h : Rep pc N v (.v u)) : v = u := by
  cases h; rfl
theorem Rep.ea_inv {pc : Nat → Nat → Option Value} {N : Nms} {v : Value} {cs : List D} (h : Rep pc N v (.ea cs)) : ∃ g o us, v = .pointer (some ⟨g, o, none⟩) ∧ RepL pc Nms.nil us cs ∧ ∀ (j : Nat) u, us[j]? = some u → pc g (o + j) = some u := by
  cases h with
  | ea _ _ g o u hp hr =>
    refine ⟨g, o, (List.range cs.length).map u, rfl, ⟨by simp, fun j d hd => ?_⟩, fun j v hv => ?_⟩
    · have hlt : j < cs.length := (List.getElem?_eq_some_iff.1 hd).1
      exact ⟨u j, by simp [hlt], hr j d hd⟩
    · have hlt : j < cs.length := by
        rcases Nat.lt_or_ge j cs.length with h | h
        · exact h
        · simp [List.getElem?_eq_none (show ((List.range cs.length).map u).length ≤ j by simpa using h)] at hv
      simp [hlt] at hv
      subst hv
      exact hp j hlt
/-- A box's cells. -/
theorem SimO.cells (h : SimO M N S fr own w) {b : Nat} {T : TypeId} {cs : List D} (hb : S.bx b = some (.cells T cs)) {g : Nat} (hg : N.bx b = some g) :
    ∃ (us : Array Value) (fz : Nat × Nat), w.heap[g]? = some (.cells us T fz) ∧ (fz = (0, 0) ∨ us.size ≤ fz.1) ∧ RepL M.pc N (us.toList.take cs.length) cs := by
  obtain ⟨g', q, h1, _, h3, ⟨us, fz, rfl, hf, h4⟩, _⟩ := h.box b _ hb
  have : g' = g := by rw [hg] at h1; injection h1 with h1; exact h1.symm
  subst this
  exact ⟨us, fz, h3, hf, h4⟩
theorem d_load {T : TypeId} {x : Operand} {d : TypeDesc} {b off n : Nat} {ag : Bool} {T' : TypeId} {cs : List D} {r : A} (h : SimO M N S fr own w) (ho : o.op = .load T x) (hd : P.underlying T = some d)
    (hs : (P.info? T).map (·.size) = some n) (hag : isAggB P T = ag) (hn : ag = false → n = 1) (hx : Rep M.pc N (ev x) (.ptr b off)) (hb : S.bx b = some (.cells T' cs)) (hr : cellsAt cs off n ag = some r) (hl : off + n ≤ cs.length) :
    Done P o ev M N S fr w nm (some r) .nil := by
  obtain ⟨g, hg, hv⟩ := hx.ptr_inv
  obtain ⟨us, fz, hu, _, hrep⟩ := h.cells hb hg
  have hlen : (((us.toList.take cs.length).drop off).take n).length = n := by have := hrep.1; simp at this ⊢; omega
  have hrun := run_loadVar_list (P := P) (w := w) hd (((us.toList.take cs.length).drop off).take n) (by rw [hlen]; exact hs) ag hag (by rw [hlen]; exact hn) (g := g) (o := off) (fun j u hj => by
    rw [cell_of_heap hu, ← hj, List.getElem?_take, List.getElem?_drop, List.getElem?_take]
    rw [List.getElem?_take, List.getElem?_drop, List.getElem?_take] at hj
    split
    · rename_i h1
      rw [if_pos h1] at hj
      split
      · simp
      · rename_i h2; rw [if_neg h2] at hj; cases hj
    · rename_i hge
      rw [if_neg hge] at hj; cases hj)
  refine done_pure h (v := _) ?_ (repA_cellsAt hrep hr hn hl)
  simp [execOp, ho, Instr.loadAt, hv, Instr.sureAddr, hrun]
theorem d_loadE {T : TypeId} {x : Operand} {d : TypeDesc} {n : Nat} {ag : Bool} {cs : List D} {r : A} (h : SimO M N S fr own w) (ho : o.op = .load T x) (hd : P.underlying T = some d)
    (hs : (P.info? T).map (·.size) = some n) (hag : isAggB P T = ag) (hn : ag = false → n = 1) (hx : Rep M.pc N (ev x) (.ea cs)) (hr : cellsAt cs 0 n ag = some r) (hl : n ≤ cs.length) :
    Done P o ev M N S fr w nm (some r) .nil := by
  obtain ⟨g, off, us, hv, hrep, hpc⟩ := hx.ea_inv
  have hlen : ((us.drop 0).take n).length = n := by have := hrep.1; simp at this ⊢; omega
  have hrun := run_loadVar_list (P := P) (w := w) hd ((us.drop 0).take n) (by rw [hlen]; exact hs) ag hag (by rw [hlen]; exact hn) (g := g) (o := off) (fun j u hj => by
    rw [List.getElem?_take] at hj
    split at hj
    · exact h.pc _ _ _ (hpc j u (by simpa using hj))
    · cases hj)
  refine done_pure h (v := _) ?_ ((repA_cellsAt hrep hr hn (by omega)).mono (fun _ _ _ e => e) (Nms.nil_le N))
  simp [execOp, ho, Instr.loadAt, hv, Instr.sureAddr, hrun]
theorem setL_length : ∀ (ds cs : List D) (off : Nat), (setL cs off ds).length = cs.length
  | [], cs, off => rfl
  | d :: ds, cs, off => by simp [setL, setL_length ds]
theorem setL_rep {pc : Nat → Nat → Option Value} {N : Nms} : ∀ (vs : List Value) (ds : List D) (us : List Value) (cs : List D) (off : Nat), RepL pc N vs ds → RepL pc N us cs → off + ds.length ≤ cs.length →
    RepL pc N (us.take off ++ vs ++ us.drop (off + vs.length)) (setL cs off ds)
  | vs, [], us, cs, off, h, k, _ => by
    have := h.nil_inv; subst this
    simpa [setL] using k
  | vs, d :: ds, us, cs, off, h, k, hl => by
    obtain ⟨v, vs', rfl, h1, h2⟩ := h.cons_inv
    have hlt : off < us.length := by have := k.1; simp at hl; omega
    have ih := setL_rep vs' ds (us.set off v) (cs.set off d) (off + 1) h2 (k.set off h1) (by simp at hl ⊢; omega)
    have e : (us.set off v).take (off + 1) ++ vs' ++ (us.set off v).drop (off + 1 + vs'.length) = us.take off ++ (v :: vs') ++ us.drop (off + (v :: vs').length) := by
      rw [List.take_succ_eq_append_getElem (by simpa using hlt), List.take_set_of_le (Nat.le_refl _), List.getElem_set_self, List.drop_set_of_lt (by omega)]
      simp [Nat.add_assoc, Nat.add_comm 1]
    rw [e] at ih
    simpa [setL] using ih
theorem run_storeCells_fz (P : Program) (g o : Nat) (t : TypeId) (fz : Nat × Nat) : ∀ (vs : List Value) (i : Nat) (cur : Array Value) (w : World), w.heap[g]? = some (.cells cur t fz) → (fz = (0, 0) ∨ cur.size ≤ fz.1) → o + i + vs.length ≤ cur.size → (∀ v ∈ vs, v.oneCell' = true) →
    (storeCells ⟨g, o, none⟩ vs i).run P w = .ok () (w.setRow g (cur.toList.take (o + i) ++ vs ++ cur.toList.drop (o + i + vs.length)).toArray)
  | [], i, cur, w, hg, _, _, _ => by
    simp only [storeCells, List.append_nil, List.length_nil, Nat.add_zero, List.take_append_drop, Array.toArray_toList]
    rw [setRow_self w g cur t fz hg]
    rfl
  | v :: rest, i, cur, w, hg, hfz, hl, h1 => by
    have hi : o + i < cur.size := by simp at hl; omega
    have hadd : (⟨g, o, none⟩ : Addr).add i = ⟨g, o + i, none⟩ := by unfold Addr.add; split <;> simp_all
    have hcell : w.cell? ⟨g, o + i, none⟩ = some cur[o + i] := by simp [World.cell?, hg, hi]
    have hfro : w.frozen? ⟨g, o + i, none⟩ = false := by
      obtain ⟨lo, hi'⟩ := fz
      simp only [World.frozen?, hg, Bool.and_eq_false_iff, decide_eq_false_iff_not]
      rcases hfz with hfz | hfz
      · injection hfz with h1 h2; subst h1; subst h2; right; omega
      · left; simp at hfz; omega
    have hst : (store ((⟨g, o, none⟩ : Addr).add i) v).run P w = .ok () (w.setRow g (cur.setIfInBounds (o + i) v)) := by
      rw [hadd, run_store P w _ v _ (h1 v (by simp)), hcell]
      simp [hfro, setCell_eq_setRow w g (o + i) cur t fz v hg]
    have ih := run_storeCells_fz P g o t fz rest (i + 1) (cur.setIfInBounds (o + i) v) (w.setRow g (cur.setIfInBounds (o + i) v)) (setRow_heap w g cur _ t _ hg) (by simpa using hfz) (by simp at hl ⊢; omega) (fun x hx => h1 x (by simp [hx]))
    simp only [storeCells, Sem.run_bind, hst, Result.andThen_ok, ih, setRow_setRow]
    congr 3
    have e := list_seg_step cur.toList (o + i) v rest (by simp at hl ⊢; omega)
    simpa [Array.toList_setIfInBounds, Nat.add_assoc] using e
theorem d_store {T T' : TypeId} {x y : Operand} {b off : Nat} {cs : List D} {r : A} (h : SimO M N S fr own w) (ho : o.op = .store T x y) (hs : (P.info? T).map (·.size) = some r.cells.length)
    (hx : Rep M.pc N (ev x) (.ptr b off)) (hb : S.bx b = some (.cells T' cs)) (hy : RepB M.pc N (ev y) r) (hl : off + r.cells.length ≤ cs.length) :
    Done P o ev M N S fr w nm none { wr := some (b, .cells T' (setL cs off r.cells)) } := by
  obtain ⟨g, hg, hv⟩ := hx.ptr_inv
  obtain ⟨us, fz, hu, hfz, hrep⟩ := h.cells hb hg
  have hc := RepA.cells hy
  have hlen : (ev y).cells.toList.length = r.cells.length := hc.1
  obtain ⟨i, hi, hi2⟩ := Option.map_eq_some_iff.1 hs
  have hcs : cs.length ≤ us.size := by have := hrep.1; simp at this; omega
  have hst := run_storeCells_fz P g off T' fz (ev y).cells.toList 0 us w hu hfz (by simp at hlen ⊢; omega) hc.one
  have hbr : BoxRep M.pc N (.cells (us.toList.take off ++ (ev y).cells.toList ++ us.toList.drop (off + (ev y).cells.toList.length)).toArray T' fz) (.cells T' (setL cs off r.cells)) := by
    refine ⟨_, fz, rfl, ?_, ?_⟩
    · rcases hfz with hfz | hfz
      · exact .inl hfz
      · refine .inr ?_
        simp at hlen ⊢; omega
    · have := setL_rep _ _ _ _ off hc hrep hl
      rw [setL_length]
      have e : (us.toList.take off ++ (ev y).cells.toList ++ us.toList.drop (off + (ev y).cells.toList.length)).toArray.toList.take cs.length
          = (us.toList.take cs.length).take off ++ (ev y).cells.toList ++ (us.toList.take cs.length).drop (off + (ev y).cells.toList.length) := by
        have h1 : off + (ev y).cells.toList.length ≤ cs.length := by omega
        have h2 : (us.toList.take off ++ (ev y).cells.toList).length = off + (ev y).cells.toList.length := by simp; omega
        rw [show (us.toList.take off ++ (ev y).cells.toList ++ us.toList.drop (off + (ev y).cells.toList.length)).toArray.toList = us.toList.take off ++ (ev y).cells.toList ++ us.toList.drop (off + (ev y).cells.toList.length) from rfl,
          List.take_append, List.take_of_length_le (by rw [h2]; exact h1), h2, List.take_take, Nat.min_eq_left (by omega), List.drop_take]
      rw [e]; exact this
  have hset := h.setBox hb hg (w' := w.setRow g (us.toList.take off ++ (ev y).cells.toList ++ us.toList.drop (off + (ev y).cells.toList.length)).toArray) ⟨rfl, rfl, rfl⟩ (by simp [World.setRow]) (setRow_heap w g us _ T' fz hu) (fun k hk => setRow_other w g k _ hk) hbr
  refine ⟨none, _, M, N, own, ?_, Gh.Le.refl _, Nms.Le.refl _, hset.later fun _ hn => hn.1, trivial⟩
  have hsz : (ev y).cells.size = i.size := by rw [hi2, ← hlen]; simp
  simp only [Nat.add_zero] at hst
  simp [execOp, ho, Instr.storeAt, hv, Instr.sureAddr, storeVar, sizeOf, typeInfo, hi, hsz, hst, nextOf]
theorem d_nchk {x : Operand} {d : D} (h : SimO M N S fr own w) (ho : o.op = .nilCheck x) (hx : Rep M.pc N (ev x) d) {g q : Nat} (hv : ev x = .pointer (some ⟨g, q, none⟩)) : Done P o ev M N S fr w nm (some (.one d)) .nil := by
  refine done_pure h (v := ev x) ?_ hx
  simp [execOp, ho, hv]
/-! ### addresses -/
theorem d_fad {T : TypeId} {x : Operand} {f off : Nat} {fs : Array Field} {F : Field} {i : TypeInfo} {r : D} (h : SimO M N S fr own w) (ho : o.op = .fieldAddr T x f) (hu : P.underlying T = some (.struct fs)) (hf : fs[f]? = some F) (hoff : F.offset = off)
    (hi : P.info? F.type = some i) (hsz : i.size ≠ 0) (hx : ∃ g q, ev x = .pointer (some ⟨g, q, none⟩) ∧ Rep M.pc N (.pointer (some ⟨g, q + off, none⟩)) r) : Done P o ev M N S fr w nm (some (.one r)) .nil := by
  obtain ⟨g, q, hv, hr⟩ := hx
  refine done_pure h (v := .pointer (some ⟨g, q + off, none⟩)) ?_ hr
  simp [execOp, ho, Instr.fieldAt, run_underlying hu, hf, hv, Instr.sureAddr, fieldPlace, sizeOf, typeInfo, hi, hsz, hoff, Addr.add_lit]
theorem rep_fad_ptr {pc : Nat → Nat → Option Value} {N : Nms} {v : Value} {b q : Nat} (off : Nat) (h : Rep pc N v (.ptr b q)) : ∃ g q', v = .pointer (some ⟨g, q', none⟩) ∧ Rep pc N (.pointer (some ⟨g, q' + off, none⟩)) (.ptr b (q + off)) := by
  obtain ⟨g, hg, rfl⟩ := h.ptr_inv
  exact ⟨g, q, rfl, .ptr _ _ _ _ hg⟩
theorem rep_fad_ea {pc : Nat → Nat → Option Value} {N : Nms} {v : Value} {cs : List D} (off : Nat) (h : Rep pc N v (.ea cs)) : ∃ g q', v = .pointer (some ⟨g, q', none⟩) ∧ Rep pc N (.pointer (some ⟨g, q' + off, none⟩)) (.ea (cs.drop off)) := by
  cases h with
  | ea _ _ g q u hp hr =>
    refine ⟨g, q, rfl, Rep.ea _ (cs.drop off) g (q + off) (fun j => u (off + j)) (fun j hj => ?_) (fun j d hd => hr (off + j) d (by rw [← hd, List.getElem?_drop]))⟩
    rw [Nat.add_assoc]
    exact hp (off + j) (by simp at hj; omega)
theorem Rep.sl_inv {pc : Nat → Nat → Option Value} {N : Nms} {v : Value} {t : Tk} {sz : Nat} {xs : List (List D)} (h : Rep pc N v (.sl t sz xs)) :
    ∃ (Ad : Option Addr) (cap g off : Nat) (u : Nat → Nat → Value), v = .slice Ad xs.length cap ∧ (cap = 0 ∨ Ad = some ⟨g, off, none⟩) ∧ (∀ x ∈ xs, x.length = sz) ∧ xs.length ≤ cap ∧ cap ≤ maxLen ∧
      (∀ i, i < xs.length → ∀ k, k < sz → pc g (off + i * sz + k) = some (u i k)) ∧ (∀ i k d, (xs[i]?.bind (·[k]?)) = some d → Rep pc Nms.nil (u i k) d) ∧ TkOK N Ad xs.length cap t := by
  cases h with
  | sl _ Ad cap _ _ _ g off u hA hl hc hm hp hr ht => exact ⟨Ad, cap, g, off, u, rfl, hA, hl, hc, hm, hp, hr, ht⟩
theorem d_iad {T e : TypeId} {x y : Operand} {t : Tk} {sz : Nat} {xs : List (List D)} {k : IntKind} {i : Int} {inf : TypeInfo} (h : SimO M N S fr own w) (ho : o.op = .indexAddr T x y) (hu : P.underlying T = some (.slice e)) (hi : P.info? e = some inf) (hsz : inf.size = sz)
    (hx : Rep M.pc N (ev x) (.sl t sz xs)) (hy : ev y = .int k i) (h0 : 0 ≤ i) (h1 : i < xs.length) : Done P o ev M N S fr w nm (some (.one (.ea (xs.getD i.toNat [])))) .nil := by
  obtain ⟨Ad, cap, g, off, u, hv, hA, hl, hc, hm, hp, hr, ht⟩ := hx.sl_inv
  have hlt : i.toNat < xs.length := by omega
  rcases hA with rfl | rfl
  · omega
  have hget : xs.getD i.toNat [] = xs[i.toNat] := by simp [List.getD, List.getElem?_eq_getElem hlt]
  refine done_pure h (v := .pointer (some ⟨g, off + i.toNat * sz, none⟩)) ?_ ?_
  · have hi' : (0 ≤ i ∧ i < (xs.length : Int)) := ⟨h0, h1⟩
    simp [execOp, ho, Instr.indexAt, hy, asIntOf, run_underlying hu, hv, hi', sizeOf, typeInfo, hi, hsz, Addr.add_lit]
  · rw [hget]
    refine Rep.ea _ _ g _ (fun j => u i.toNat j) (fun j hj => hp i.toNat hlt j (by rw [hl _ (List.getElem_mem hlt)] at hj; exact hj)) (fun j d hd => hr i.toNat j d (by rw [List.getElem?_eq_getElem hlt]; exact hd))
theorem d_iada {T e : TypeId} {x y : Operand} {b q n sz : Nat} {k : IntKind} {i : Int} {inf : TypeInfo} (h : SimO M N S fr own w) (ho : o.op = .indexAddr T x y) (hu : P.underlying T = some (.array n e)) (hi : P.info? e = some inf) (hsz : inf.size = sz)
    (hx : Rep M.pc N (ev x) (.ptr b q)) (hy : ev y = .int k i) (h0 : 0 ≤ i) (h1 : i < n) : Done P o ev M N S fr w nm (some (.one (.ptr b (q + i.toNat * sz)))) .nil := by
  obtain ⟨g, hg, hv⟩ := hx.ptr_inv
  refine done_pure h (v := .pointer (some ⟨g, q + i.toNat * sz, none⟩)) ?_ (Rep.ptr _ _ _ _ hg)
  have hi' : (0 ≤ i ∧ i < (n : Int)) := ⟨h0, h1⟩
  simp [execOp, ho, Instr.indexAt, hy, asIntOf, run_underlying hu, hv, Instr.sureAddr, hi', sizeOf, typeInfo, hi, hsz, Addr.add_lit]
end
end Go.Proofs.YtbhingdlclfipaaDoor.Ab
