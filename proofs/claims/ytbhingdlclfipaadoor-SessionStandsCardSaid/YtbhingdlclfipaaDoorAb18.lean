/- An abstract calculus over pure data, part 18: what an argument of a law says. -/
import Derived.Test.YtbhingdlclfipaaDoorAb17
import GoSem.ClaimJoined
import Derived.ChangeArms
import Derived.Test.YtbhingdlclfipaaDoorRows
namespace Go.Proofs.YtbhingdlclfipaaDoor.Ab
open Go Go.RowKit
set_option linter.unusedVariables false
set_option linter.unusedSimpArgs false

inductive Ty where
  | bool | int (k : IntKind) | str | sl (e : TypeId)
def leavesS (P : Program) (lf : TypeId → Option (List Ty)) : List Field → Nat → Option (List Ty)
  | [], _ => some []
  | f :: fs, j => if f.offset = j then (lf f.type).bind fun a => if a.length = P.cellsOf f.type then (leavesS P lf fs (j + a.length)).map (a ++ ·) else none else none
def leaves (P : Program) : Nat → TypeId → Option (List Ty)
  | 0, _ => none
  | n + 1, t => match P.underlying t with
    | some .bool => some [.bool]
    | some (.int k) => some [.int k]
    | some .string => some [.str]
    | some (.slice e) => some [.sl e]
    | some (.struct fs) => (leavesS P (leaves P n) fs.toList 0).bind fun a => if a.length = P.cellsOf t then some a else none
    | _ => none
/-- What lies in an argument: texts and slices of B at most. -/
inductive Ok (P : Program) (B : Nat) : Ty → D → Prop
  | bool (b : Bool) : Ok P B .bool (.v (.bool b))
  | int (k : IntKind) (n : Int) (h : (Lit.int k n).wf = true) : Ok P B (.int k) (.v (.int k n))
  | str (s : ByteArray) (h : s.size ≤ B) : Ok P B .str (.v (.string s))
  | sl (e : TypeId) (n : Nat) (ts : List Ty) (xs : List (List D)) (hl : leaves P n e = some ts) (hlen : ∀ x ∈ xs, x.length = ts.length) (h : ∀ x ∈ xs, ∀ (j : Nat) t d, ts[j]? = some t → x[j]? = some d → Ok P B t d) (hb : xs.length * P.bytesOf e ≤ reachBytes) (hn : xs.length ≤ B) :
      Ok P B (.sl e) (.sl .no ts.length xs)
def OkL (P : Program) (B : Nat) (ts : List Ty) (ds : List D) : Prop := ds.length = ts.length ∧ ∀ (j : Nat) t d, ts[j]? = some t → ds[j]? = some d → Ok P B t d
theorem OkL.append {P : Program} {B : Nat} {ts us : List Ty} {ds es : List D} (h : OkL P B ts ds) (k : OkL P B us es) : OkL P B (ts ++ us) (ds ++ es) := by
  refine ⟨by simp [h.1, k.1], fun j t d ht hd => ?_⟩
  rcases Nat.lt_or_ge j ts.length with hj | hj
  · rw [List.getElem?_append_left hj] at ht
    rw [List.getElem?_append_left (by rw [h.1]; exact hj)] at hd
    exact h.2 j t d ht hd
  · rw [List.getElem?_append_right hj] at ht
    rw [List.getElem?_append_right (by rw [h.1]; exact hj), h.1] at hd
    exact k.2 _ t d ht hd
theorem OkL.nil {P : Program} {B : Nat} : OkL P B [] [] := ⟨rfl, fun j t d h => by simp at h⟩
theorem OkL.cons {P : Program} {B : Nat} {t : Ty} {ts : List Ty} {d : D} {ds : List D} (h : Ok P B t d) (k : OkL P B ts ds) : OkL P B (t :: ts) (d :: ds) := by
  refine ⟨by simp [k.1], fun j u e hu he => ?_⟩
  cases j with
  | zero => simp only [List.getElem?_cons_zero, Option.some.injEq] at hu he; subst hu; subst he; exact h
  | succ j => exact k.2 j u e (by simpa using hu) (by simpa using he)
theorem OkL.cons_inv {P : Program} {B : Nat} {t : Ty} {ts : List Ty} {ds : List D} (h : OkL P B (t :: ts) ds) : ∃ d ds', ds = d :: ds' ∧ Ok P B t d ∧ OkL P B ts ds' := by
  obtain ⟨hl, hr⟩ := h
  cases ds with
  | nil => simp at hl
  | cons d ds' => exact ⟨d, ds', rfl, hr 0 t d rfl rfl, by simpa using hl, fun j u e hu he => hr (j + 1) u e (by simpa using hu) (by simpa using he)⟩
theorem OkL.nil_inv {P : Program} {B : Nat} {ds : List D} (h : OkL P B [] ds) : ds = [] := List.eq_nil_of_length_eq_zero h.1
/-- The cells of a world. -/
def pcW (w : World) : Nat → Nat → Option Value := fun g i => w.cell? ⟨g, i, none⟩
theorem mapM_get {α β : Type} {f : α → Option β} : ∀ {l : List α} {r : List β}, l.mapM f = some r → r.length = l.length ∧ ∀ (j : Nat) a, l[j]? = some a → ∃ b, r[j]? = some b ∧ f a = some b
  | [], r, h => by
    simp at h; subst h; exact ⟨rfl, fun j a h => by simp at h⟩
  | x :: l, r, h => by
    rw [List.mapM_cons] at h
    simp only [Option.bind_eq_bind, Option.pure_def] at h
    obtain ⟨y, hy, h⟩ := Option.bind_eq_some_iff.1 h
    obtain ⟨ys, hys, h⟩ := Option.bind_eq_some_iff.1 h
    simp only [Option.some.injEq] at h; subst h
    obtain ⟨h1, h2⟩ := mapM_get hys
    refine ⟨by simp [h1], fun j a ha => ?_⟩
    cases j with
    | zero => simp only [List.getElem?_cons_zero, Option.some.injEq] at ha; subst ha; exact ⟨y, rfl, hy⟩
    | succ j => simpa using h2 j a (by simpa using ha)
theorem bulk_pos {H : Type} (d : DataW H) : 1 ≤ Rows.uptoBulk d := by
  cases d with
  | lit l => cases l <;> simp [Rows.uptoBulk]
  | nil => simp [Rows.uptoBulk]
  | ptr d => simp [Rows.uptoBulk]
  | slice elems spare => simp [Rows.uptoBulk]
  | agg parts => simp [Rows.uptoBulk]
  | iface t d => simp [Rows.uptoBulk]
  | map entries => simp [Rows.uptoBulk]
  | held h => simp [Rows.uptoBulk]
theorem bulk_mem {H : Type} {d : DataW H} : ∀ {l : List (DataW H)}, d ∈ l → Rows.uptoBulk d ≤ Rows.uptoBulkAll l
  | [], h => by cases h
  | x :: r, h => by
    simp only [Rows.uptoBulkAll]
    rcases List.mem_cons.1 h with rfl | h
    · omega
    · have := bulk_mem h; omega
theorem bulk_len {H : Type} : ∀ (l : List (DataW H)), l.length ≤ Rows.uptoBulkAll l
  | [] => by simp [Rows.uptoBulkAll]
  | x :: r => by have := bulk_pos x; have := bulk_len r; simp only [Rows.uptoBulkAll, List.length_cons]; omega
section
variable {H : Type} {B : Nat} {enc : TypeId × Value → H} {P : Program} {w : World} {spare : Nat → Bool} {held : Bool}
theorem fields_rep {fuel n : Nat} {es : List TypeId} {cs : List Value}
    (ih : ∀ (t : TypeId) (cs : List Value) (d : DataW H) (ps : List MemPlace) (ts : List Ty), DataW.trod enc P w 0 spare held fuel t cs = some (d, ps) → leaves P n t = some ts → (∀ e, Ty.sl e ∈ ts → e ∈ es) → (DataW.weights P t d).all (· ≤ reachBytes) = true → (reachBytes ≤ B ∨ Rows.uptoBulk d ≤ B) → ∃ ds, RepL (pcW w) Nms.nil cs ds ∧ OkL P B ts ds) :
    ∀ (fs : List Field) (j : Nat) (xs : List (DataW H × List MemPlace)) (ts : List Ty), (fs.mapM fun f => DataW.trod enc P w 0 spare held fuel f.type ((cs.drop f.offset).take (P.cellsOf f.type))) = some xs → leavesS P (leaves P n) fs j = some ts → (∀ e, Ty.sl e ∈ ts → e ∈ es) →
      (DataW.weightsEach P (fs.map (·.type)) (xs.map (·.1))).all (· ≤ reachBytes) = true → (reachBytes ≤ B ∨ Rows.uptoBulkAll (xs.map (·.1)) ≤ B) → ∃ ds, RepL (pcW w) Nms.nil ((cs.drop j).take ts.length) ds ∧ OkL P B ts ds
  | [], j, xs, ts, hx, hl, he, hw, hB => by
    simp only [leavesS, Option.some.injEq] at hl; subst hl
    exact ⟨[], by simpa using RepL.nil _ _, OkL.nil⟩
  | f :: fs, j, xs, ts, hx, hl, he, hw, hB => by
    rw [List.mapM_cons] at hx
    simp only [Option.bind_eq_bind, Option.pure_def] at hx
    obtain ⟨⟨d, p⟩, hd, hx⟩ := Option.bind_eq_some_iff.1 hx
    obtain ⟨ys, hys, hx⟩ := Option.bind_eq_some_iff.1 hx
    simp only [Option.some.injEq] at hx; subst hx
    simp only [leavesS] at hl
    split at hl
    · rename_i ho
      obtain ⟨a, ha, hl⟩ := bind_some hl
      split at hl
      · rename_i hal
        obtain ⟨ts', hts, rfl⟩ := map_some hl
        simp only [List.map_cons, DataW.weightsEach, List.all_append, Bool.and_eq_true] at hw
        subst ho
        rw [← hal] at hd
        obtain ⟨ds1, h1, h2⟩ := ih f.type _ d p a hd ha (fun e h => he e (List.mem_append.2 (.inl h))) hw.1 (by simp only [List.map_cons, Rows.uptoBulkAll] at hB; omega)
        obtain ⟨ds2, h3, h4⟩ := fields_rep ih fs (f.offset + a.length) ys ts' hys hts (fun e h => he e (List.mem_append.2 (.inr h))) hw.2 (by simp only [List.map_cons, Rows.uptoBulkAll] at hB; omega)
        refine ⟨ds1 ++ ds2, ?_, h2.append h4⟩
        rw [List.length_append, List.take_add, List.drop_drop]
        exact h1.append h3
      · cases hl
    · cases hl
theorem spot_none {a : Addr} {u : Value} (h : w.cell? a = some u) : a = ⟨a.block, a.off, none⟩ := by
  unfold World.cell? at h
  split at h
  · split at h
    · cases h
    · rename_i hs
      obtain ⟨b, o, sp⟩ := a
      cases sp with
      | none => rfl
      | some x => simp at hs
  · cases h
/-- Element types that are told. -/
def Told (P : Program) (n : Nat) (es : List TypeId) : Prop := ∀ e ∈ es, ∃ ts, leaves P n e = some ts ∧ ts.length = P.cellsOf e ∧ 0 < ts.length ∧ 0 < P.bytesOf e ∧ ∀ e', Ty.sl e' ∈ ts → e' ∈ es
theorem weightsAll_mem : ∀ {l : List (DataW H)} {e : TypeId} {q : Nat → Bool}, (DataW.weightsAll P e l).all q = true → ∀ d ∈ l, (DataW.weights P e d).all q = true
  | [], e, q, h, d, hd => by cases hd
  | x :: l, e, q, h, d, hd => by
    simp only [DataW.weightsAll, List.all_append, Bool.and_eq_true] at h
    rcases List.mem_cons.1 hd with rfl | hd
    · exact h.1
    · exact weightsAll_mem h.2 d hd
theorem cell_row {a : Addr} {i n k : Nat} {cs : List Value} (hs : a.spot = none) (h : w.cells? 0 (a.add (i * n)) n = some cs) (hk : k < n) : ∃ v, cs[k]? = some v ∧ pcW w a.block (a.off + i * n + k) = some v := by
  unfold World.cells? at h
  rw [if_pos (Nat.zero_le _)] at h
  obtain ⟨h1, h2⟩ := mapM_get h
  obtain ⟨v, h3, h4⟩ := h2 k k (by simp [hk])
  refine ⟨v, h3, ?_⟩
  have : (a.add (i * n)).add k = ⟨a.block, a.off + i * n + k, none⟩ := by
    obtain ⟨b, o, s⟩ := a
    simp only at hs; subst hs
    unfold Addr.add
    split <;> split <;> simp_all
  rw [this] at h4; exact h4
theorem cells_len {a : Addr} {n : Nat} {cs : List Value} (h : w.cells? 0 a n = some cs) : cs.length = n := by
  unfold World.cells? at h
  rw [if_pos (Nat.zero_le _)] at h
  simpa using (mapM_get h).1
theorem cells_spot {a : Addr} {n : Nat} {cs : List Value} (hn : 0 < n) (h : w.cells? 0 (a.add 0) n = some cs) : a.spot = none := by
  unfold World.cells? at h
  rw [if_pos (Nat.zero_le _)] at h
  obtain ⟨v, _, h4⟩ := (mapM_get h).2 0 0 (by simp [hn])
  have h5 := spot_none h4
  have : (a.add 0).add 0 = a := by simp [Addr.add]
  rw [this] at h5
  rw [h5]
theorem take_zero_all {cs : List Value} {n : Nat} (h : cs.length = n) : (cs.drop 0).take n = cs := by subst h; simp

theorem trod_fields {fuel : Nat} {t : TypeId} {cs : List Value} {d : DataW H} {ps : List MemPlace} {fs : Array Field} (ht : P.underlying t = some (.struct fs)) (h : DataW.trod enc P w 0 spare held fuel t cs = some (d, ps)) :
    ∃ (xs : List (DataW H × List MemPlace)) (n : Nat), fuel = n + 1 ∧ d = .agg (xs.map (·.1)) ∧ cs.length = P.cellsOf t ∧ (fs.toList.mapM fun f => DataW.trod enc P w 0 spare held n f.type ((cs.drop f.offset).take (P.cellsOf f.type))) = some xs := by
  cases fuel with
  | zero => simp [DataW.trod] at h
  | succ n =>
    unfold DataW.trod at h
    rw [ht] at h
    split at h <;> simp_all
    obtain ⟨hl, xs, hp, hd, _⟩ := h
    exact ⟨xs, hd.symm, hp⟩
theorem trod_rep {n0 : Nat} {es : List TypeId} (told : Told P n0 es) (hsp : ∀ b, spare b = true) : ∀ (fuel n : Nat) (t : TypeId) (cs : List Value) (d : DataW H) (ps : List MemPlace) (ts : List Ty), DataW.trod enc P w 0 spare held fuel t cs = some (d, ps) → leaves P n t = some ts → (∀ e, Ty.sl e ∈ ts → e ∈ es) →
    (DataW.weights P t d).all (· ≤ reachBytes) = true → (reachBytes ≤ B ∨ Rows.uptoBulk d ≤ B) → ∃ ds, RepL (pcW w) Nms.nil cs ds ∧ OkL P B ts ds
  | 0, n, t, cs, d, ps, ts, h, hl, he, hw, hB => by simp [DataW.trod] at h
  | fuel + 1, 0, t, cs, d, ps, ts, h, hl, he, hw, hB => by simp [leaves] at hl
  | fuel + 1, n + 1, t, cs, d, ps, ts, h, hl, he, hw, hB => by
    have ih := trod_rep told hsp fuel
    simp only [leaves] at hl
    split at hl
    · -- bool
      rename_i hu
      simp only [Option.some.injEq] at hl; subst hl
      obtain ⟨b, rfl, _⟩ := DataW.trod_bool hu h
      exact ⟨[.v (.bool b)], RepL.cons (.v _ _ rfl) (RepL.nil _ _), OkL.cons (.bool _) OkL.nil⟩
    · -- int
      rename_i k hu
      simp only [Option.some.injEq] at hl; subst hl
      obtain ⟨m, rfl, _, hk⟩ := DataW.trod_int hu h
      exact ⟨[.v (.int k m)], RepL.cons (.v _ _ rfl) (RepL.nil _ _), OkL.cons (.int _ _ hk) OkL.nil⟩
    · -- string
      rename_i hu
      simp only [Option.some.injEq] at hl; subst hl
      obtain ⟨s, rfl, hx, _⟩ := DataW.trod_string hu h
      simp only [Prod.mk.injEq] at hx
      obtain ⟨rfl, _⟩ := hx
      refine ⟨[.v (.string s)], RepL.cons (.v _ _ rfl) (RepL.nil _ _), OkL.cons (.str _ ?_) OkL.nil⟩
      have e : s.data.toList.length = s.size := by rw [Array.length_toList]; rfl
      simp only [DataW.weights, List.all_cons, List.all_nil, Bool.and_true, decide_eq_true_eq] at hw
      simp only [Rows.uptoBulk] at hB
      omega
    · -- slice
      rename_i e hu
      simp only [Option.some.injEq] at hl; subst hl
      have hee : e ∈ es := he e (List.mem_singleton.2 rfl)
      obtain ⟨us, hus, hul, hupos, hbpos, hin⟩ := told e hee
      rcases DataW.trod_slice hu h with ⟨rfl, _⟩ | ⟨a, len, cap, elems, rest, m, hm, rfl, hx, _, hlc, hcm, hlen, hel, hrest, _⟩
      · -- nil
        exact ⟨[.sl .no us.length []], RepL.cons (.sl _ none 0 .no us.length [] 0 0 (fun _ _ => undef) (.inl rfl) (by simp) (Nat.le_refl 0) (Nat.zero_le _) (by simp) (by simp) trivial) (RepL.nil _ _),
          OkL.cons (.sl e n0 us [] hus (by simp) (by simp) (by simp) (by simp)) OkL.nil⟩
      · simp only [Nat.add_right_cancel_iff] at hm
        subst hm
        simp only [Prod.mk.injEq] at hx
        obtain ⟨rfl, _⟩ := hx
        simp only [DataW.weights, hu, List.all_cons, List.all_append, Bool.and_eq_true, decide_eq_true_eq, List.length_map] at hw
        obtain ⟨hw1, hw2, hw3⟩ := hw
        obtain ⟨hrl, hrest⟩ := hrest (hsp _)
        have hget : ∀ i, i < len → ∃ b, elems[i]? = some b ∧ (w.cells? 0 (a.add (i * P.cellsOf e)) (P.cellsOf e)).bind (DataW.trod enc P w 0 spare held fuel e) = some b := fun i hi => by
          have h1 := hel i hi
          rw [List.getElem?_eq_getElem (by omega)] at h1
          exact ⟨_, List.getElem?_eq_getElem (by omega), h1⟩
        have hspot : 0 < cap → a.spot = none := by
          intro hcap
          rcases Nat.eq_zero_or_pos len with h0 | h0
          · subst h0
            have hb := hrest 0 (by omega)
            rw [List.getElem?_eq_getElem (by omega)] at hb
            obtain ⟨cs', hcs, _⟩ := bind_some hb
            rw [Nat.zero_add, Nat.zero_mul] at hcs
            exact cells_spot (by omega) hcs
          · obtain ⟨b, _, hb⟩ := hget 0 (by omega)
            obtain ⟨cs', hcs, _⟩ := bind_some hb
            rw [Nat.zero_mul] at hcs
            exact cells_spot (by omega) hcs
        have key : ∀ i, ∃ p : List Value × List D, i < len → RepL (pcW w) Nms.nil p.1 p.2 ∧ OkL P B us p.2 ∧ ∀ k, k < us.length → ∃ v, p.1[k]? = some v ∧ pcW w a.block (a.off + i * us.length + k) = some v := by
          intro i
          by_cases hi : i < len
          · obtain ⟨b, hb1, hb⟩ := hget i hi
            obtain ⟨cs', hcs, hb⟩ := bind_some hb
            obtain ⟨ds, h1, h2⟩ := ih n0 e cs' b.1 b.2 us hb hus hin (weightsAll_mem hw2 _ (List.mem_map.2 ⟨b, List.mem_of_getElem? hb1, rfl⟩)) (hB.imp_right fun h => Nat.le_trans (bulk_mem (l := elems.map (·.1)) (List.mem_map.2 ⟨b, List.mem_of_getElem? hb1, rfl⟩)) (by simp only [Rows.uptoBulk] at h; omega))
            refine ⟨(cs', ds), fun _ => ⟨h1, h2, fun k hk => ?_⟩⟩
            rw [hul] at hk ⊢
            exact cell_row (hspot (by omega)) hcs hk
          · exact ⟨([], []), fun h => absurd h hi⟩
        obtain ⟨f, hf⟩ := Classical.axiomOfChoice key
        have hll : ((List.range len).map fun i => (f i).2).length = len := by simp
        refine ⟨[.sl .no us.length ((List.range len).map fun i => (f i).2)], RepL.cons ?_ (RepL.nil _ _), OkL.cons (.sl e n0 us _ hus ?_ ?_ ?_ ?_) OkL.nil⟩
        · have hrep := Rep.sl (pc := pcW w) Nms.nil (some a) cap .no us.length ((List.range len).map fun i => (f i).2) a.block a.off (fun i k => (f i).1.getD k undef)
            (by
              rcases Nat.eq_zero_or_pos cap with h0 | h0
              · exact .inl h0
              · refine .inr ?_
                have := hspot h0
                obtain ⟨b, o, s⟩ := a
                simp only at this; subst this; rfl)
            (by
              intro x hx
              obtain ⟨i, hi, rfl⟩ := List.mem_map.1 hx
              exact (hf i (List.mem_range.1 hi)).2.1.1)
            (by rw [hll]; exact hlc) hcm
            (by
              intro i hi k hk
              rw [hll] at hi
              obtain ⟨v, hv, hp⟩ := (hf i hi).2.2 k hk
              rw [hp, List.getD_eq_getElem?_getD, hv]; rfl)
            (by
              intro i k d hd
              obtain ⟨x, hx, hd⟩ := bind_some hd
              rw [List.getElem?_map] at hx
              obtain ⟨i', hi', rfl⟩ := map_some hx
              have hi2 := List.getElem?_eq_some_iff.1 hi'
              obtain ⟨hi3, hi4⟩ := hi2
              simp only [List.getElem_range] at hi4
              subst hi4
              obtain ⟨v, hv, hr⟩ := (hf i (by simpa using hi3)).1.2 k d hd
              rw [List.getD_eq_getElem?_getD, hv]; exact hr)
            trivial
          rw [hll] at hrep; exact hrep
        · intro x hx
          obtain ⟨i, hi, rfl⟩ := List.mem_map.1 hx
          exact (hf i (List.mem_range.1 hi)).2.1.1
        · intro x hx j t d ht hd
          obtain ⟨i, hi, rfl⟩ := List.mem_map.1 hx
          exact (hf i (List.mem_range.1 hi)).2.1.2 j t d ht hd
        · rw [hll]
          refine Nat.le_trans ?_ hw1
          rw [hlen]
          exact Nat.mul_le_mul_right _ (Nat.le_add_right _ _)
        · rw [hll]
          rcases hB with hB | hB
          · refine Nat.le_trans ?_ (Nat.le_trans hw1 hB)
            rw [hlen]
            exact Nat.le_trans (Nat.le_add_right _ _) (Nat.le_mul_of_pos_right _ hbpos)
          · have := bulk_len (elems.map (·.1))
            simp only [Rows.uptoBulk, List.length_map] at hB this
            omega
    · -- struct
      rename_i fs hu
      obtain ⟨a, ha, hl⟩ := bind_some hl
      split at hl
      case isFalse => cases hl
      rename_i hal
      simp only [Option.some.injEq] at hl; subst hl
      obtain ⟨xs, m, hm, hx, hc, hxs⟩ := trod_fields hu h
      simp only [Nat.add_right_cancel_iff] at hm
      subst hm
      subst hx
      simp only [DataW.weights, hu] at hw
      obtain ⟨ds, h2, h3⟩ := fields_rep (n := n) (es := es) (fun t cs d ps ts h1 h2 h3 h4 h5 => ih n t cs d ps ts h1 h2 h3 h4 h5) fs.toList 0 xs a hxs ha he hw (hB.imp_right fun h => by simp only [Rows.uptoBulk] at h; omega)
      rw [take_zero_all (by rw [hc, hal])] at h2
      exact ⟨ds, h2, h3⟩
    · cases hl
end
end Go.Proofs.YtbhingdlclfipaaDoor.Ab
