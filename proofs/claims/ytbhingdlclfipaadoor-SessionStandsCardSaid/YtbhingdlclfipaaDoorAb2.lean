/- An abstract calculus over pure data, part 2: how the state moves as memory is made and written. -/
import Derived.Test.YtbhingdlclfipaaDoorAb1
namespace Go.Proofs.YtbhingdlclfipaaDoor.Ab
open Go Go.RowKit

variable {M : Gh} {N : Nms} {S : St} {fr : Nat → Prop} {own : Nat → Option Ow} {w : World}

theorem heap_new (w : World) (o : Obj) : (w.alloc o).heap[w.heap.size]? = some o := heap_alloc_new w o
theorem heap_old (w : World) (o : Obj) {r : Nat} (h : r < w.heap.size) : (w.alloc o).heap[r]? = w.heap[r]? := by
  show (w.heap.push o)[r]? = _
  rw [Array.getElem?_push_lt h, Array.getElem?_eq_getElem h]
theorem lt_of_heap {w : World} {g : Nat} {o : Obj} (h : w.heap[g]? = some o) : g < w.heap.size := (Array.getElem?_eq_some_iff.1 h).1
theorem cell_of_heap {w : World} {g i : Nat} {cs : Array Value} {T : TypeId} {fr : Nat × Nat} (h : w.heap[g]? = some (.cells cs T fr)) : w.cell? ⟨g, i, none⟩ = cs[i]? := by
  simp [World.cell?, h]
theorem RowAt.lt {w : World} {g : Nat} {cur : Array Value} {e : TypeId} (h : RowAt w.heap[g]? cur e) : g < w.heap.size := by
  obtain ⟨fz, h, _⟩ := h; exact lt_of_heap h
theorem RowAt.cell {w : World} {g i : Nat} {cur : Array Value} {e : TypeId} (h : RowAt w.heap[g]? cur e) : w.cell? ⟨g, i, none⟩ = cur[i]? := by
  obtain ⟨fz, h, _⟩ := h; exact cell_of_heap h
theorem RowAt.set {w : World} {g : Nat} {cur cur' : Array Value} {e : TypeId} (h : RowAt w.heap[g]? cur e) (hs : cur'.size = cur.size) : RowAt (w.setRow g cur').heap[g]? cur' e := by
  obtain ⟨fz, h, h2⟩ := h; exact ⟨fz, setRow_heap w g cur cur' e fz h, by rw [hs]; exact h2⟩
theorem RowAt.setCell {w : World} {g i : Nat} {cur cur' : Array Value} {e : TypeId} (h : RowAt w.heap[g]? cur e) : (w.setRow g cur').cell? ⟨g, i, none⟩ = cur'[i]? := by
  obtain ⟨fz, h, _⟩ := h; exact cell_of_heap (setRow_heap w g cur cur' e fz h)
theorem cell_same {w w' : World} {g : Nat} (h : w'.heap[g]? = w.heap[g]?) (i : Nat) : w'.cell? ⟨g, i, none⟩ = w.cell? ⟨g, i, none⟩ := by
  simp [World.cell?, h]

theorem SimO.pc_lt (h : SimO M N S fr own w) {g i : Nat} {u : Value} (e : M.pc g i = some u) : g < w.heap.size := World.block_lt_of_cell? _ _ (h.pc g i u e)
theorem SimO.im_lt (h : SimO M N S fr own w) {g : Nat} {o : Obj} (e : M.im g = some o) : g < w.heap.size := lt_of_heap (h.im g o e)
theorem SimO.pc_new (h : SimO M N S fr own w) (i : Nat) : M.pc w.heap.size i = none := by
  cases e : M.pc w.heap.size i with
  | none => rfl
  | some u => exact absurd (h.pc_lt e) (Nat.lt_irrefl _)
theorem SimO.im_new (h : SimO M N S fr own w) : M.im w.heap.size = none := by
  cases e : M.im w.heap.size with
  | none => rfl
  | some u => exact absurd (h.im_lt e) (Nat.lt_irrefl _)

theorem SimO.env (h : SimO M N S fr own w) (env : Nat → Option A) (va : Nat → Prop) : SimO M N { S with env := env, va := va } fr own w := ⟨h.base, h.pc, h.im, h.fro, h.lt, h.box, h.tok, h.fresh, h.glob, h.nb, h.big⟩
theorem SimO.drew (h : SimO M N S fr own w) : SimO M N S fr own w.drew := ⟨h.base, h.pc, h.im, h.fro, h.lt, h.box, h.tok, h.fresh, h.glob, h.nb, h.big⟩
theorem SimO.drewN (h : SimO M N S fr own w) (n : Nat) : SimO M N S fr own (w.drewN n) := ⟨h.base, h.pc, h.im, h.fro, h.lt, h.box, h.tok, h.fresh, h.glob, h.nb, h.big⟩
theorem SimO.nx (h : SimO M N S fr own w) (n : Nat) : SimO M N { S with nx := n } fr own w := ⟨h.base, h.pc, h.im, h.fro, h.lt, h.box, h.tok, h.fresh, h.glob, h.nb, h.big⟩
theorem SimO.later (h : SimO M N S fr own w) {fr' : Nat → Prop} (hn : ∀ n, fr' n → fr n) : SimO M N S fr' own w :=
  ⟨h.base, h.pc, h.im, h.fro, h.lt, h.box, h.tok, fun m hm => h.fresh m (hn m hm), h.glob, h.nb, h.big⟩

/-- One block more; all that was there is there. -/
structure One (w w' : World) (o : Obj) : Prop where
  base : w'.os = w.os ∧ w'.tape = w.tape ∧ w'.output = w.output
  size : w'.heap.size = w.heap.size + 1
  old : ∀ r, r < w.heap.size → w'.heap[r]? = w.heap[r]?
  new : w'.heap[w.heap.size]? = some o
theorem One.alloc (w : World) (o : Obj) : One w (w.alloc o) o := ⟨⟨rfl, rfl, rfl⟩, by simp, fun _ h => heap_old w o h, heap_new w o⟩
theorem One.drew_alloc (w : World) (o : Obj) : One w (w.drew.alloc o) o := ⟨⟨rfl, rfl, rfl⟩, by simp, fun _ h => heap_old w.drew o h, heap_new w.drew o⟩

/-- Any other object that is made: nobody looks at it. -/
theorem SimO.other (h : SimO M N S fr own w) {w' : World} {o : Obj} (k : One w w' o) : SimO M N S fr own w' := by
  refine ⟨⟨k.base.1.trans h.base.1, k.base.2.1.trans h.base.2.1, k.base.2.2.trans h.base.2.2⟩, fun g i u e => ?_, fun g q e => ?_, fun g hg => ⟨?_, (h.fro g hg).2⟩, fun g q e => ?_, fun n b e => ?_, fun t Q e => ?_, h.fresh, h.glob, h.nb, by have := h.big; have := k.size; omega⟩
  · rw [cell_same (k.old _ (h.pc_lt e))]; exact h.pc g i u e
  · rw [k.old _ (h.im_lt e)]; exact h.im g q e
  · have := (h.fro g hg).1; rw [k.size]; omega
  · have := h.lt g q e; rw [k.size]; omega
  · obtain ⟨g, q, h1, h2, h3, h4⟩ := h.box n b e
    exact ⟨g, q, h1, h2, by rw [k.old _ (lt_of_heap h3)]; exact h3, h4⟩
  · obtain ⟨v, h1, h2⟩ := h.tok t Q e
    refine ⟨v, h1, ?_⟩
    rcases h2 with h2 | ⟨g, len, cap, cur, h2, h3, h4, h5⟩
    · exact .inl h2
    · exact .inr ⟨g, len, cap, cur, h2, h3, by rw [k.old _ h4.lt]; exact h4, h5⟩

/-- A new box. -/
def Nms.box (N : Nms) (nm g : Nat) : Nms := { N with bx := upd N.bx nm (some g) }
theorem Nms.le_box {N : Nms} {nm g : Nat} (h : N.bx nm = none) : N.Le (N.box nm g) :=
  ⟨fun n q e => (by
    show upd N.bx nm (some g) n = some q
    rw [upd_ne]
    · exact e
    · rintro rfl; rw [h] at e; cases e), fun _ _ e => e⟩
theorem SimO.newBox (h : SimO M N S fr own w) {nm : Nat} (hnm : fr nm) {o : Obj} {w' : World} (k : One w w' o) {b : Box} (hb : BoxRep M.pc N o b) :
    SimO M (N.box nm w.heap.size) { S with bx := upd S.bx nm (some b) } (fun n => fr n ∧ n ≠ nm) (upd own w.heap.size (some (.bx nm))) w' := by
  have hf := h.fresh nm hnm
  have hle : N.Le (N.box nm w.heap.size) := Nms.le_box hf.1
  have ho := h.other k
  have hown : ∀ g q, own g = some q → upd own w.heap.size (some (Ow.bx nm)) g = some q := fun g q e => by
    rw [upd_ne]
    · exact e
    · have := h.lt g q e; omega
  refine ⟨ho.base, ho.pc, ho.im, fun g hg => ?_, fun g q e => ?_, fun n b' (e : upd S.bx nm (some b) n = some b') => ?_, fun t Q e => ?_, fun n hn => ?_, h.glob, h.nb.trans hle, ho.big⟩
  · obtain ⟨h1, h2⟩ := h.fro g hg
    exact ⟨by rw [k.size]; omega, by rw [upd_ne _ _ _ (by omega)]; exact h2⟩
  · by_cases hg : g = w.heap.size
    · subst hg; rw [k.size]; omega
    · rw [upd_ne _ _ _ hg] at e; exact ho.lt g q e
  · by_cases hn : n = nm
    · subst hn
      rw [upd_same] at e
      injection e with e; subst e
      refine ⟨w.heap.size, o, upd_same _ _ _, upd_same _ _ _, k.new, hb.mono (fun _ _ _ e => e) hle, h.im_new, h.pc_new⟩
    · rw [upd_ne _ _ _ hn] at e
      obtain ⟨g, q, h1, h2, h3, h4, h5⟩ := ho.box n b' e
      exact ⟨g, q, hle.bx _ _ h1, hown _ _ h2, h3, h4.mono (fun _ _ _ e => e) hle, h5⟩
  · obtain ⟨v, h1, h2⟩ := ho.tok t Q e
    refine ⟨v, hle.tk _ _ h1, ?_⟩
    rcases h2 with h2 | ⟨g, len, cap, cur, h2, h3, h4⟩
    · exact .inl h2
    · exact .inr ⟨g, len, cap, cur, h2, hown _ _ h3, h4⟩
  · obtain ⟨h1, h2⟩ := h.fresh n hn.1
    exact ⟨by show upd N.bx nm _ n = none; rw [upd_ne _ _ _ hn.2]; exact h1, h2⟩

/-- A new row whose first k cells are told for ever. -/
def Gh.row (M : Gh) (g k : Nat) (us : Array Value) : Gh := { M with pc := fun b i => if b = g then (if i < k then us[i]? else none) else M.pc b i }
theorem Gh.le_row {M : Gh} {g k : Nat} {us : Array Value} (h : ∀ i, M.pc g i = none) (hf : ¬ M.fro g) : M.Le (M.row g k us) := by
  refine ⟨fun b i u e => ?_, fun _ _ e => e, rfl, rfl, fun b hb i => ?_, rfl, rfl⟩
  · show (if b = g then _ else M.pc b i) = some u
    rw [if_neg]
    · exact e
    · rintro rfl; rw [h] at e; cases e
  · show (if b = g then _ else M.pc b i) = _
    rw [if_neg]
    rintro rfl; exact hf hb
theorem SimO.not_fro (h : SimO M N S fr own w) : ¬ M.fro w.heap.size := fun hf => Nat.lt_irrefl _ (h.fro _ hf).1
theorem SimO.newRow (h : SimO M N S fr own w) {us : Array Value} {T : TypeId} {fz : Nat × Nat} {w' : World} (one : One w w' (.cells us T fz)) (k : Nat) :
    SimO (M.row w.heap.size k us) N S fr own w' := by
  have ho := h.other one
  have hle : M.Le (M.row w.heap.size k us) := Gh.le_row h.pc_new h.not_fro
  refine ⟨ho.base, fun g i u e => ?_, ho.im, ho.fro, ho.lt, fun n b e => ?_, fun t Q e => ?_, h.fresh, fun q hq => hle.pc _ _ _ (h.glob q hq), h.nb, ho.big⟩
  · have e' : (if g = w.heap.size then (if i < k then us[i]? else none) else M.pc g i) = some u := e
    split at e'
    · rename_i hg; subst hg
      rw [cell_of_heap one.new]
      split at e'
      · exact e'
      · cases e'
    · exact ho.pc g i u e'
  · obtain ⟨g, q, h1, h2, h3, h4, h5, h6⟩ := ho.box n b e
    have hg : g ≠ w.heap.size := by have := h.lt g _ h2; omega
    exact ⟨g, q, h1, h2, h3, h4.mono hle.pc (Nms.Le.refl N), h5, fun i => by show (if g = _ then _ else _) = _; rw [if_neg hg]; exact h6 i⟩
  · obtain ⟨v, h1, h2⟩ := ho.tok t Q e
    refine ⟨v, h1, ?_⟩
    rcases h2 with h2 | ⟨g, len, cap, cur, h2, h3, h4, h5, h6, h7, h8, h9⟩
    · exact .inl h2
    · have hg : g ≠ w.heap.size := by have := h.lt g _ h3; omega
      exact .inr ⟨g, len, cap, cur, h2, h3, h4, h5, h6, h7, h8, fun i hi => by show (if g = _ then _ else _) = _; rw [if_neg hg]; exact h9 i hi⟩

/-- A new token for a row that nobody owns, or that a token owned that is given up. -/
def Nms.tok (N : Nms) (nm : Nat) (v : Value) : Nms := { N with tk := upd N.tk nm (some v) }
theorem Nms.le_tok {N : Nms} {nm : Nat} {v : Value} (h : N.tk nm = none) : N.Le (N.tok nm v) :=
  ⟨fun _ _ e => e, fun n q e => by
    show upd N.tk nm (some v) n = some q
    rw [upd_ne]
    · exact e
    · rintro rfl; rw [h] at e; cases e⟩
theorem SimO.kill (h : SimO M N S fr own w) (t : Nat) : SimO M N { S with tk := upd S.tk t none } fr own w := by
  refine ⟨h.base, h.pc, h.im, h.fro, h.lt, h.box, fun t' Q e => ?_, h.fresh, h.glob, h.nb, h.big⟩
  have e' : upd S.tk t none t' = some Q := e
  by_cases ht : t' = t
  · subst ht; rw [upd_same] at e'; cases e'
  · rw [upd_ne _ _ _ ht] at e'; exact h.tok t' Q e'
theorem SimO.newTok (h : SimO M N S fr own w) {nm : Nat} (hnm : fr nm) {g len cap : Nat} {cur : Array Value} {E : TypeId} {sz : Nat}
    (hh : RowAt w.heap[g]? cur E) (hlc : len ≤ cap) (hcm : cap ≤ maxLen) (hcs : cur.size = cap * sz) (him : M.im g = none) (hpc : ∀ i, len * sz ≤ i → M.pc g i = none)
    (hfro : ¬ M.fro g) (hbx : ∀ n, own g ≠ some (.bx n)) (htk : ∀ t, own g = some (.tk t) → S.tk t = none) :
    SimO M (N.tok nm (.slice (some ⟨g, 0, none⟩) len cap)) { S with tk := upd S.tk nm (some (E, sz)) } (fun n => fr n ∧ n ≠ nm) (upd own g (some (.tk nm))) w := by
  have hf := h.fresh nm hnm
  have hle : N.Le (N.tok nm (.slice (some ⟨g, 0, none⟩) len cap)) := Nms.le_tok hf.2
  refine ⟨h.base, h.pc, h.im, fun b hb => ?_, fun b q e => ?_, fun n b e => ?_, fun t Q e => ?_, fun n hn => ?_, h.glob, h.nb.trans hle, h.big⟩
  · have hne : b ≠ g := by rintro rfl; exact hfro hb
    exact ⟨(h.fro b hb).1, by rw [upd_ne _ _ _ hne]; exact (h.fro b hb).2⟩
  · by_cases hb : b = g
    · subst hb; exact hh.lt
    · rw [upd_ne _ _ _ hb] at e; exact h.lt b q e
  · obtain ⟨b', q, h1, h2, h3, h4, h5⟩ := h.box n b e
    have hne : b' ≠ g := by rintro rfl; exact hbx n h2
    exact ⟨b', q, hle.bx _ _ h1, by rw [upd_ne _ _ _ hne]; exact h2, h3, h4.mono (fun _ _ _ e => e) hle, h5⟩
  · have e' : upd S.tk nm (some (E, sz)) t = some Q := e
    by_cases ht : t = nm
    · subst ht
      rw [upd_same] at e'; injection e' with e'; subst e'
      exact ⟨_, upd_same _ _ _, .inr ⟨g, len, cap, cur, rfl, upd_same _ _ _, hh, hlc, hcm, hcs, him, hpc⟩⟩
    · rw [upd_ne _ _ _ ht] at e'
      obtain ⟨v, h1, h2⟩ := h.tok t Q e'
      refine ⟨v, hle.tk _ _ h1, ?_⟩
      rcases h2 with h2 | ⟨b, len', cap', cur', h2, h3, h4⟩
      · exact .inl h2
      · have hne : b ≠ g := by
          rintro rfl
          have := htk t h3
          rw [this] at e'; cases e'
        exact .inr ⟨b, len', cap', cur', h2, by rw [upd_ne _ _ _ hne]; exact h3, h4⟩
  · obtain ⟨h1, h2⟩ := h.fresh n hn.1
    exact ⟨h1, by show upd N.tk nm _ n = none; rw [upd_ne _ _ _ hn.2]; exact h2⟩

/-- A new token for a value without spare room. -/
theorem SimO.newTokFull (h : SimO M N S fr own w) {nm : Nat} (hnm : fr nm) {A : Option Addr} {n : Nat} (q : TypeId × Nat) :
    SimO M (N.tok nm (.slice A n n)) { S with tk := upd S.tk nm (some q) } (fun n => fr n ∧ n ≠ nm) own w := by
  have hf := h.fresh nm hnm
  have hle : N.Le (N.tok nm (.slice A n n)) := Nms.le_tok hf.2
  refine ⟨h.base, h.pc, h.im, h.fro, h.lt, fun n b e => ?_, fun t Q e => ?_, fun n hn => ?_, h.glob, h.nb.trans hle, h.big⟩
  · obtain ⟨b', q, h1, h2, h3, h4, h5⟩ := h.box n b e
    exact ⟨b', q, hle.bx _ _ h1, h2, h3, h4.mono (fun _ _ _ e => e) hle, h5⟩
  · have e' : upd S.tk nm (some q) t = some Q := e
    by_cases ht : t = nm
    · subst ht
      exact ⟨_, upd_same _ _ _, .inl ⟨A, n, rfl⟩⟩
    · rw [upd_ne _ _ _ ht] at e'
      obtain ⟨v, h1, h2⟩ := h.tok t Q e'
      exact ⟨v, hle.tk _ _ h1, h2⟩
  · obtain ⟨h1, h2⟩ := h.fresh n hn.1
    exact ⟨h1, by show upd N.tk nm _ n = none; rw [upd_ne _ _ _ hn.2]; exact h2⟩

/-- A row of a token gets more cells. -/
def Gh.more (M : Gh) (g k : Nat) (us : Array Value) : Gh := { M with pc := fun b i => if b = g then (if i < k then us[i]? else none) else M.pc b i }
theorem SimO.grow (h : SimO M N S fr own w) {t : Nat} {g : Nat} {cur cur' : Array Value} {E : TypeId} {L L' : Nat} (ho : own g = some (.tk t)) (hcell : RowAt w.heap[g]? cur E)
    (hpc : ∀ i, L ≤ i → M.pc g i = none) (him : M.im g = none) (hL : L ≤ L') (hsame : ∀ i, i < L → cur'[i]? = cur[i]?) (hdead : S.tk t = none) :
    M.Le (M.more g L' cur') ∧ SimO (M.more g L' cur') N S fr own (w.setRow g cur') := by
  have hnf : ¬ M.fro g := fun hf => by have := (h.fro g hf).2; rw [ho] at this; cases this
  have hle : M.Le (M.more g L' cur') := by
    refine ⟨fun b i u e => ?_, fun _ _ e => e, rfl, rfl, fun b hb i => ?_, rfl, rfl⟩
    · show (if b = g then _ else M.pc b i) = some u
      by_cases hb : b = g
      · subst hb
        have hi : i < L := Nat.lt_of_not_le fun hge => by rw [hpc i hge] at e; cases e
        rw [if_pos rfl, if_pos (by omega), hsame i hi]
        have := h.pc b i u e
        rwa [hcell.cell] at this
      · rw [if_neg hb]; exact e
    · show (if b = g then _ else M.pc b i) = _
      rw [if_neg]
      rintro rfl; exact hnf hb
  refine ⟨hle, ⟨h.base, fun b i u e => ?_, fun b q e => ?_, fun b hb => ⟨by simpa [World.setRow] using (h.fro b hb).1, (h.fro b hb).2⟩, fun b q e => by simpa [World.setRow] using h.lt b q e, fun n b e => ?_, fun t' Q e => ?_, h.fresh, fun q hq => hle.pc _ _ _ (h.glob q hq), h.nb, by show M.w0.heap.size ≤ _; simpa [World.setRow] using h.big⟩⟩
  · have e' : (if b = g then (if i < L' then cur'[i]? else none) else M.pc b i) = some u := e
    split at e'
    · rename_i hb; subst hb
      rw [hcell.setCell]
      split at e'
      · exact e'
      · cases e'
    · rename_i hb
      rw [cell_same (setRow_other w g b cur' hb)]; exact h.pc b i u e'
  · have hb : b ≠ g := by rintro rfl; have e' : M.im b = some q := e; rw [him] at e'; cases e'
    rw [setRow_other w g b cur' hb]; exact h.im b q e
  · obtain ⟨b', q, h1, h2, h3, h4, h5, h6⟩ := h.box n b e
    have hne : b' ≠ g := by rintro rfl; rw [ho] at h2; cases h2
    exact ⟨b', q, h1, h2, by rw [setRow_other w g b' cur' hne]; exact h3, h4.mono hle.pc (Nms.Le.refl N), h5, fun i => by show (if b' = g then _ else _) = _; rw [if_neg hne]; exact h6 i⟩
  · obtain ⟨v, h1, h2⟩ := h.tok t' Q e
    refine ⟨v, h1, ?_⟩
    rcases h2 with h2 | ⟨b, len, cap, c, h2, h3, h4, h5, h6, h7, h8, h9⟩
    · exact .inl h2
    · have hne : b ≠ g := by
        rintro rfl
        rw [ho] at h3; injection h3 with h3; injection h3 with h3; subst h3
        rw [hdead] at e; cases e
      exact .inr ⟨b, len, cap, c, h2, h3, by rw [setRow_other w g b cur' hne]; exact h4, h5, h6, h7, h8, fun i hi => by show (if b = g then _ else _) = _; rw [if_neg hne]; exact h9 i hi⟩

/-- A box is written. -/
theorem SimO.setBox (h : SimO M N S fr own w) {n : Nat} {b b' : Box} (hb : S.bx n = some b) {g : Nat} (hg : N.bx n = some g) {w' : World} {o' : Obj}
    (hw : w'.os = w.os ∧ w'.tape = w.tape ∧ w'.output = w.output) (hsz : w'.heap.size = w.heap.size) (hat : w'.heap[g]? = some o') (hoth : ∀ k, k ≠ g → w'.heap[k]? = w.heap[k]?)
    (hr : BoxRep M.pc N o' b') : SimO M N { S with bx := upd S.bx n (some b') } fr own w' := by
  obtain ⟨g0, o, h1, h2, h3, h4, h5, h6⟩ := h.box n b hb
  have hgg : g0 = g := by rw [hg] at h1; injection h1 with h1; exact h1.symm
  subst hgg
  refine ⟨⟨hw.1.trans h.base.1, hw.2.1.trans h.base.2.1, hw.2.2.trans h.base.2.2⟩, fun k i u e => ?_, fun k q e => ?_, fun k hk => ?_, fun k q e => ?_, fun m c (e : upd S.bx n (some b') m = some c) => ?_, fun t Q e => ?_, h.fresh, h.glob, h.nb, by rw [hsz]; exact h.big⟩
  · have hne : k ≠ g0 := by rintro rfl; rw [h6] at e; cases e
    rw [cell_same (hoth k hne)]; exact h.pc k i u e
  · have hne : k ≠ g0 := by rintro rfl; rw [h5] at e; cases e
    rw [hoth k hne]; exact h.im k q e
  · rw [hsz]; exact h.fro k hk
  · rw [hsz]; exact h.lt k q e
  · by_cases hm : m = n
    · subst hm
      rw [upd_same] at e; injection e with e; subst e
      exact ⟨g0, o', h1, h2, hat, hr, h5, h6⟩
    · rw [upd_ne _ _ _ hm] at e
      obtain ⟨k, q, k1, k2, k3, k4, k5⟩ := h.box m c e
      have hne : k ≠ g0 := by
        rintro rfl
        rw [h2] at k2; injection k2 with k2; injection k2 with k2; exact hm k2.symm
      exact ⟨k, q, k1, k2, by rw [hoth k hne]; exact k3, k4, k5⟩
  · obtain ⟨v, k1, k2⟩ := h.tok t Q e
    refine ⟨v, k1, ?_⟩
    rcases k2 with k2 | ⟨k, len, cap, cur, k2, k3, k4, k5⟩
    · exact .inl k2
    · have hne : k ≠ g0 := by
        rintro rfl
        rw [h2] at k3; injection k3 with k3; cases k3
      exact .inr ⟨k, len, cap, cur, k2, k3, by rw [hoth k hne]; exact k4, k5⟩

end Go.Proofs.YtbhingdlclfipaaDoor.Ab
