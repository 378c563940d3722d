/- An abstract calculus over pure data, part 9: the code's own operations do what part 3 says (appends). -/
import Derived.Test.YtbhingdlclfipaaDoorAb8
namespace Go.Proofs.YtbhingdlclfipaaDoor.Ab
open Go Go.RowKit
set_option linter.unusedVariables false
set_option linter.unusedSimpArgs false

section
variable {P : Program} {o : Oper} {ev : Operand → Value} {M : Gh} {N : Nms} {S : St} {fr : Nat → Prop} {own : Nat → Option Ow} {w : World} {nm : Nat}

theorem Rep.sl_flat {pc : Nat → Nat → Option Value} {v : Value} {t : Tk} {sz : Nat} {xs : List (List D)} (h0 : 0 < sz) (h : Rep pc N v (.sl t sz xs)) :
    ∃ (Ad : Option Addr) (cap g off : Nat) (us : List Value), v = .slice Ad xs.length cap ∧ (cap = 0 ∨ Ad = some ⟨g, off, none⟩) ∧ (∀ x ∈ xs, x.length = sz) ∧ xs.length ≤ cap ∧ cap ≤ maxLen ∧
      us.length = xs.length * sz ∧ (∀ (j : Nat) u, us[j]? = some u → pc g (off + j) = some u) ∧ RepL pc Nms.nil us xs.flatten ∧ TkOK N Ad xs.length cap t := by
  obtain ⟨Ad, cap, g, off, u, hv, hA, hl, hc, hm, hp, hr, ht⟩ := h.sl_inv
  have hget : ∀ j, j < xs.length * sz → ((List.range (xs.length * sz)).map fun q => u (q / sz) (q % sz))[j]? = some (u (j / sz) (j % sz)) := fun j hj => by simp [hj]
  have hdiv : ∀ j, j < xs.length * sz → j / sz < xs.length := fun j hj => (Nat.div_lt_iff_lt_mul h0).2 hj
  have hdm : ∀ j, j / sz * sz + j % sz = j := fun j => by rw [Nat.mul_comm]; exact Nat.div_add_mod j sz
  refine ⟨Ad, cap, g, off, (List.range (xs.length * sz)).map fun q => u (q / sz) (q % sz), hv, hA, hl, hc, hm, by simp, fun j v hv' => ?_, ⟨by rw [len_flatten hl]; simp, fun j d hd => ?_⟩, ht⟩
  · have hj : j < xs.length * sz := by
      have := (List.getElem?_eq_some_iff.1 hv').1
      simpa using this
    rw [hget j hj] at hv'
    injection hv' with hv'
    rw [← hv', ← hp (j / sz) (hdiv j hj) (j % sz) (Nat.mod_lt _ h0), Nat.add_assoc, hdm]
  · have hj : j < xs.length * sz := by
      have := (List.getElem?_eq_some_iff.1 hd).1
      rwa [len_flatten hl] at this
    refine ⟨_, hget j hj, hr _ _ _ ?_⟩
    rw [← hd, ← flatten_get hl (j / sz) (j % sz) (Nat.mod_lt _ h0), hdm]

theorem run_append_zero (t ty e : TypeId) (i : TypeInfo) (ht : P.underlying t = some (.slice e)) (hi : P.info? e = some i) (Ad B : Option Addr) (n cap c : Nat) (hn : n ≤ cap) :
    (Builtin.append_ #[t, t] ty #[.slice Ad n cap, .slice B 0 c]).run P w = .ok (.slice Ad n cap) w := by
  cases B <;> cases Ad <;> simp [Builtin.append_, run_underlying ht, sizeOf, typeInfo, hi, Builtin.lenOf, hn, Builtin.firstCells, loadCells, loadCellsFrom, storeCells]

/-- A new row that holds what was and what is new, behind a token. -/
theorem app_new {e : TypeId} {sz cap : Nat} {xs ys : List (List D)} {olds news : List Value} {zs : Array Value} (h : SimO M N S fr own w) (hnm : fr nm) (hro : RepL M.pc Nms.nil olds xs.flatten) (hrn : RepL M.pc Nms.nil news ys.flatten)
    (hlx : ∀ x ∈ xs, x.length = sz) (hly : ∀ x ∈ ys, x.length = sz) (hc : xs.length + ys.length ≤ cap) (hm : cap ≤ maxLen) (hzs : zs.size = (cap - (xs.length + ys.length)) * sz) {w' : World} (one : One w w' (.cells (olds.toArray ++ news.toArray ++ zs) e)) :
    ∃ M' N' own', M.Le M' ∧ N.Le N' ∧ SimO M' N' { S with tk := upd S.tk nm (some (e, sz)) } (fun n => fr n ∧ n ≠ nm) own' w' ∧ Rep M'.pc N' (.slice (some ⟨w.heap.size, 0, none⟩) (xs.length + ys.length) cap) (.sl (.tk nm) sz (xs ++ ys)) := by
  have hol : olds.length = xs.length * sz := by rw [hro.1, len_flatten hlx]
  have hnl : news.length = ys.length * sz := by rw [hrn.1, len_flatten hly]
  have hlen : (xs.length + ys.length) * sz = olds.length + news.length := by rw [hol, hnl, Nat.add_mul]
  have hrow := h.newRow one ((xs.length + ys.length) * sz)
  have hle := Gh.le_row (M := M) (g := w.heap.size) (k := (xs.length + ys.length) * sz) (us := olds.toArray ++ news.toArray ++ zs) h.pc_new h.not_fro
  have hcs : (olds.toArray ++ news.toArray ++ zs).size = cap * sz := by
    simp only [Array.size_append, List.size_toArray, hzs, ← hlen, ← Nat.add_mul]
    congr 1; omega
  have hown : own w.heap.size = none := by
    cases e' : own w.heap.size with
    | none => rfl
    | some q => exact absurd (h.lt _ _ e') (Nat.lt_irrefl _)
  have htok := hrow.newTok hnm (g := w.heap.size) (len := xs.length + ys.length) (cap := cap) (sz := sz) ⟨_, one.new, .inl rfl⟩ hc hm hcs h.im_new (fun i hi => by
    show (if _ = _ then (if i < _ then _ else _) else _) = _
    rw [if_pos rfl, if_neg (by omega)]) h.not_fro (fun n hn => by rw [hown] at hn; cases hn) (fun t ht => by rw [hown] at ht; cases ht)
  refine ⟨_, _, _, hle, Nms.le_tok (h.fresh nm hnm).2, htok, ?_⟩
  have hr : RepL M.pc Nms.nil (olds ++ news).toArray.toList (xs ++ ys).flatten := by rw [List.flatten_append]; exact hro.append hrn
  have := rep_row (M := M) (us := (olds ++ news).toArray) (g := w.heap.size) (t := .tk nm) (sz := sz) (xs := xs ++ ys) (cap := cap) hr (fun x hx => (List.mem_append.1 hx).elim (hlx x) (hly x))
    (by simpa using hc) hm (pc := (M.row w.heap.size ((xs.length + ys.length) * sz) (olds.toArray ++ news.toArray ++ zs)).pc) (fun i hi => by
      rw [List.length_append, hlen] at hi
      show (if _ = _ then (if i < _ then _ else _) else _) = _
      rw [if_pos rfl, if_pos (by omega), Array.getElem?_append_left (by simpa using hi)]
      simp) hle.pc (N' := N.tok nm (.slice (some ⟨w.heap.size, 0, none⟩) (xs.length + ys.length) cap)) (by rw [List.length_append]; exact upd_same _ _ _)
  rw [List.length_append] at this
  exact this

theorem run_append_room_fz {P : Program} (w : World) (t ty e : TypeId) (i : TypeInfo) (ht : P.underlying t = some (.slice e)) (hi : P.info? e = some i)
    (g sLen sCap : Nat) (cur : Array Value) (hg : RowAt w.heap[g]? cur e)
    (a : Addr) (m c : Nat) (news : List Value) (hl : news.length = m * i.size) (hnews : ∀ j u, news[j]? = some u → w.cell? (a.add j) = some u) (h1 : ∀ u ∈ news, u.oneCell' = true)
    (hroom : sLen + m ≤ sCap) (hfit : sLen * i.size + news.length ≤ cur.size) :
    (Builtin.append_ #[t, t] ty #[.slice (some ⟨g, 0, none⟩) sLen sCap, .slice (some a) m c]).run P w =
      .ok (.slice (some ⟨g, 0, none⟩) (sLen + m) sCap) (w.setRow g (cur.toList.take (sLen * i.size) ++ news ++ cur.toList.drop (sLen * i.size + news.length)).toArray) := by
  obtain ⟨fz, hg, hz⟩ := hg
  have hf := run_firstCells_some (P := P) w i.size m a m c news hl hnews
  have hst := run_storeCells_fz P g (sLen * i.size) e fz news 0 cur w hg hz (by simpa using hfit) h1
  simp only [Nat.add_zero] at hst
  simp [Builtin.append_, run_underlying ht, sizeOf, typeInfo, hi, Builtin.lenOf, hroom, hf, Addr.add_lit, hst]
/-- A row of a token with room: it is written behind its last element, and is another token's from now on. -/
theorem app_room {e : TypeId} {sz cap g k : Nat} {xs ys : List (List D)} {olds news : List Value} {cur : Array Value} (h : SimO M N S fr own w) (hnm : fr nm) (hk : S.tk k = none) (hg : own g = some (.tk k)) (hh : RowAt w.heap[g]? cur e)
    (hcs : cur.size = cap * sz) (him : M.im g = none) (hpc : ∀ i, xs.length * sz ≤ i → M.pc g i = none) (hold : ∀ (j : Nat) u, olds[j]? = some u → M.pc g j = some u) (hro : RepL M.pc Nms.nil olds xs.flatten) (hrn : RepL M.pc Nms.nil news ys.flatten)
    (hlx : ∀ x ∈ xs, x.length = sz) (hly : ∀ x ∈ ys, x.length = sz) (hc : xs.length + ys.length ≤ cap) (hm : cap ≤ maxLen) :
    ∃ M' N' own', M.Le M' ∧ N.Le N' ∧ SimO M' N' { S with tk := upd S.tk nm (some (e, sz)) } (fun n => fr n ∧ n ≠ nm) own' (w.setRow g (cur.toList.take (xs.length * sz) ++ news ++ cur.toList.drop (xs.length * sz + news.length)).toArray) ∧
      Rep M'.pc N' (.slice (some ⟨g, 0, none⟩) (xs.length + ys.length) cap) (.sl (.tk nm) sz (xs ++ ys)) := by
  have hol : olds.length = xs.length * sz := by rw [hro.1, len_flatten hlx]
  have hnl : news.length = ys.length * sz := by rw [hrn.1, len_flatten hly]
  have hlen : (xs.length + ys.length) * sz = olds.length + news.length := by rw [hol, hnl, Nat.add_mul]
  have hfit : xs.length * sz + news.length ≤ cur.size := by rw [hcs, hnl, ← Nat.add_mul]; exact Nat.mul_le_mul_right _ hc
  have holds : cur.toList.take (xs.length * sz) = olds := by
    apply List.ext_getElem?
    intro j
    rcases Nat.lt_or_ge j olds.length with hj | hj
    · have h1 := h.pc _ _ _ (hold j _ (List.getElem?_eq_getElem hj))
      rw [hh.cell] at h1
      rw [List.getElem?_take, if_pos (by omega), List.getElem?_eq_getElem hj, Array.getElem?_toList, h1]
    · rw [List.getElem?_eq_none (by simp; omega), List.getElem?_eq_none hj]
  rw [holds]
  have hcur' : ∀ i, i < (olds.length + news.length) → (olds ++ news ++ cur.toList.drop (xs.length * sz + news.length)).toArray[i]? = (olds ++ news)[i]? := fun i hi => by
    simp only [List.getElem?_toArray]
    rw [List.getElem?_append_left (by simpa using hi)]
  obtain ⟨hle, hs⟩ := h.grow (cur' := (olds ++ news ++ cur.toList.drop (xs.length * sz + news.length)).toArray) (L := xs.length * sz) (L' := (xs.length + ys.length) * sz) hg hh hpc him (Nat.mul_le_mul_right _ (by omega)) (fun i hi => by
    rw [hcur' i (by omega), List.getElem?_append_left (by omega)]
    rw [← holds, List.getElem?_take, if_pos hi, Array.getElem?_toList]) hk
  have htok := hs.newTok hnm (g := g) (len := xs.length + ys.length) (cap := cap) (sz := sz) (hh.set (by simp only [List.size_toArray, List.length_append, List.length_drop, Array.length_toList]; omega)) hc hm (by
      simp only [List.size_toArray, List.length_append, List.length_drop, Array.length_toList]; omega) him (fun i hi => by
    show (if _ = _ then (if i < _ then _ else _) else _) = _
    rw [if_pos rfl, if_neg (by omega)]) (fun hf => by have := (h.fro g hf).2; rw [hg] at this; cases this) (fun n hn => by rw [hg] at hn; cases hn) (fun t ht => by rw [hg] at ht; injection ht with ht; injection ht with ht; subst ht; exact hk)
  refine ⟨_, _, _, hle, Nms.le_tok (h.fresh nm hnm).2, htok, ?_⟩
  have hr : RepL M.pc Nms.nil (olds ++ news).toArray.toList (xs ++ ys).flatten := by rw [List.flatten_append]; exact hro.append hrn
  have := rep_row (M := M) (us := (olds ++ news).toArray) (g := g) (t := .tk nm) (sz := sz) (xs := xs ++ ys) (cap := cap) hr (fun x hx => (List.mem_append.1 hx).elim (hlx x) (hly x))
    (by simpa using hc) hm (pc := (M.more g ((xs.length + ys.length) * sz) (olds ++ news ++ cur.toList.drop (xs.length * sz + news.length)).toArray).pc) (fun i hi => by
      rw [List.length_append, hlen] at hi
      show (if _ = _ then (if i < _ then _ else _) else _) = _
      rw [if_pos rfl, if_pos (by omega), hcur' i hi]
      simp) hle.pc (N' := N.tok nm (.slice (some ⟨g, 0, none⟩) (xs.length + ys.length) cap)) (by rw [List.length_append]; exact upd_same _ _ _)
  rw [List.length_append] at this
  exact this

/-- An append: what it needs of the slice that is appended to is told by hk (its row is a token's) or by hf (it has no room). -/
theorem app_core {T e : TypeId} {x y : Operand} {t t' : Tk} {sz bytes : Nat} {xs ys : List (List D)} {i : TypeInfo} {z : Value} (h : SimO M N S fr own w) (hnm : fr nm) (ho : o.op = .call { callee := .builtin .append, args := #[x, y], argTypes := #[T, T] })
    (hT : P.underlying T = some (.slice e)) (hi : P.info? e = some i) (hz : i.zero = some z) (hsz : i.size = sz) (hby : i.bytes = bytes) (hzs : z.cells.size = sz) (h0 : 0 < sz) (hb0 : 0 < bytes)
    (hx : Rep M.pc N (ev x) (.sl t sz xs)) (hy : Rep M.pc N (ev y) (.sl t' sz ys)) (hbytes : (xs.length + ys.length) * bytes ≤ 140737488355328)
    (ht : (∃ Ad n, ev x = .slice Ad n n) ∨ ∃ k g len cap cur, ev x = .slice (some ⟨g, 0, none⟩) len cap ∧ own g = some (.tk k) ∧ S.tk k = none ∧ RowAt w.heap[g]? cur e ∧ cur.size = cap * sz ∧ M.im g = none ∧ (∀ i, len * sz ≤ i → M.pc g i = none)) :
    ∃ v w' M' N' own', (execOp ev o).run P w = .ok (.value v) w' ∧ M.Le M' ∧ N.Le N' ∧ SimO M' N' { S with tk := upd S.tk nm (some (e, sz)) } (fun n => fr n ∧ n ≠ nm) own' w' ∧ Rep M'.pc N' v (.sl (.tk nm) sz (xs ++ ys)) := by
  obtain ⟨Ad, cap, g, off, olds, hv, hA, hlx, hc, hm, hol, hold, hro, htk⟩ := hx.sl_flat h0
  obtain ⟨Bd, capB, gB, offB, news, hvB, hB, hly, hcB, hmB, hnl, hnew, hrn, _⟩ := hy.sl_flat h0
  have hexec : ∀ (v : Value) (w' : World), (Builtin.append_ #[T, T] o.type #[ev x, ev y]).run P w = .ok v w' → (execOp ev o).run P w = .ok (.value v) w' := by
    intro v w' hr
    unfold execOp
    simp only [ho, resolve, invoke, builtin, Sem.run_bind, Sem.run_pure, Result.andThen_ok, List.map_toArray, List.map_cons, List.map_nil, hr]
  have h48 : xs.length + ys.length ≤ 140737488355328 := Nat.le_trans (Nat.le_mul_of_pos_right _ hb0) hbytes
  have hml : xs.length + ys.length ≤ maxLen := by simp only [maxLen]; omega
  subst hby
  rcases Nat.eq_zero_or_pos ys.length with hy0 | hyp
  · have hys : ys = [] := List.eq_nil_of_length_eq_zero hy0
    subst hys
    have hr := run_append_zero (P := P) (w := w) T o.type e i hT hi Ad Bd xs.length cap capB hc
    rw [hv, hvB] at hexec
    rcases ht with ⟨Ad', n, hf⟩ | ⟨k, g', len, cap', cur, hf, hown, hdead, hh, hcs, him, hpc⟩
    · rw [hv] at hf
      injection hf with h1 h2 h3
      refine ⟨_, _, M, _, own, hexec _ _ hr, Gh.Le.refl _, Nms.le_tok (h.fresh nm hnm).2, h.newTokFull hnm (A := Ad) (n := xs.length) (e, sz), ?_⟩
      have hx' := hx.mono (fun _ _ _ e => e) (Nms.le_tok (v := .slice Ad xs.length xs.length) (h.fresh nm hnm).2)
      rw [hv] at hx'
      have hcl : cap = xs.length := by omega
      subst hcl
      rw [List.append_nil]
      obtain ⟨Ad2, cap2, g2, off2, u2, hv2, hA2, hl2, hc2, hm2, hp2, hr2, ht2⟩ := hx'.sl_inv
      injection hv2 with q1 q2 q3
      subst q1; subst q3
      exact Rep.sl _ _ _ (.tk nm) sz xs g2 off2 u2 hA2 hl2 hc2 hm2 hp2 hr2 (upd_same _ _ _)
    · rw [hv] at hf
      injection hf with h1 h2 h3
      subst h2; subst h3; subst h1
      have htok := h.newTok hnm (g := g') (len := xs.length) (cap := cap) (sz := sz) hh hc hm hcs him hpc (fun hf => by have := (h.fro g' hf).2; rw [hown] at this; cases this) (fun n hn => by rw [hown] at hn; cases hn) (fun t ht => by rw [hown] at ht; injection ht with ht; injection ht with ht; subst ht; exact hdead)
      refine ⟨_, _, M, _, _, hexec _ _ hr, Gh.Le.refl _, Nms.le_tok (h.fresh nm hnm).2, htok, ?_⟩
      have hx' := hx.mono (fun _ _ _ e => e) (Nms.le_tok (v := .slice (some ⟨g', 0, none⟩) xs.length cap) (h.fresh nm hnm).2)
      rw [hv] at hx'
      rw [List.append_nil]
      obtain ⟨Ad2, cap2, g2, off2, u2, hv2, hA2, hl2, hc2, hm2, hp2, hr2, ht2⟩ := hx'.sl_inv
      injection hv2 with q1 q2 q3
      subst q1; subst q3
      exact Rep.sl _ _ _ (.tk nm) sz xs g2 off2 u2 hA2 hl2 hc2 hm2 hp2 hr2 (upd_same _ _ _)
  · have hBs : Bd = some ⟨gB, offB, none⟩ := by
      rcases hB with hB | hB
      · omega
      · exact hB
    subst hBs
    have hnews : ∀ (j : Nat) u, news[j]? = some u → w.cell? ((⟨gB, offB, none⟩ : Addr).add j) = some u := fun j u hu => by rw [Addr.add_lit]; exact h.pc _ _ _ (hnew j u hu)
    have hone : ∀ u ∈ news, u.oneCell' = true := hrn.one
    have h63 : ((xs.length + ys.length : Nat) : Int) ≤ 9223372036854775807 := by omega
    rcases hA with rfl | rfl
    · cases Ad with
      | some b0 =>
        have hxs : xs = [] := List.eq_nil_of_length_eq_zero (by omega)
        subst hxs
        have hol' : olds = [] := List.eq_nil_of_length_eq_zero (by simpa using hol)
        subst hol'
        have hr := run_append_grow (P := P) w T o.type e i z hT hi hz b0 0 0 [] (by simp) (by simp) ⟨gB, offB, none⟩ ys.length capB news (by rw [hsz]; exact hnl) hnews (by omega) (by simpa using h63) (growslice_fits (by omega) (by simpa using hbytes))
        rw [hv, hvB] at hexec
        obtain ⟨M', N', own', q1, q2, q3, q4⟩ := app_new (xs := []) (ys := ys) (olds := []) (news := news) (zs := Builtin.zeroCells z.cells (grownCap w (0 + ys.length) 0 e - (0 + ys.length))) (cap := grownCap w (0 + ys.length) 0 e) h hnm hro hrn (by simp) hly (grownCap_ge w _ _ _) (grownCap_le_maxLen w _ _ _ (by simpa using hml)) (by rw [size_zeroCells, hzs]; rfl)
          (One.drew_alloc w (.cells ([].toArray ++ news.toArray ++ Builtin.zeroCells z.cells (grownCap w (0 + ys.length) 0 e - (0 + ys.length))) e))
        exact ⟨_, _, M', N', own', hexec _ _ hr, q1, q2, q3, q4⟩
      | none =>
      have hxs : xs = [] := List.eq_nil_of_length_eq_zero (by omega)
      subst hxs
      have hol' : olds = [] := List.eq_nil_of_length_eq_zero (by simpa using hol)
      subst hol'
      have hb' : ys.length * i.bytes ≤ 140737488355328 := by simpa using hbytes
      have hr := run_append_nil (P := P) w T o.type e i z hT hi hz ⟨gB, offB, none⟩ ys.length capB news (by rw [hsz]; exact hnl) hnews hyp (by omega) (by omega)
      rw [hv, hvB] at hexec
      have hn := app_new (xs := []) (ys := ys) (olds := []) (news := news) (zs := Builtin.zeroCells z.cells (grownCap w ys.length 0 e - ys.length)) (cap := grownCap w ys.length 0 e) h hnm hro hrn (by simp) hly (by simpa using grownCap_ge w ys.length 0 e) (grownCap_le_maxLen w _ _ _ (by simpa using hml)) (by rw [size_zeroCells, hzs]; simp)
        (w' := w.drew.alloc (.cells (news.toArray ++ Builtin.zeroCells z.cells (grownCap w ys.length 0 e - ys.length)) e)) (by simpa using One.drew_alloc w (.cells (news.toArray ++ Builtin.zeroCells z.cells (grownCap w ys.length 0 e - ys.length)) e))
      obtain ⟨M', N', own', q1, q2, q3, q4⟩ := hn
      exact ⟨_, _, M', N', own', hexec _ _ hr, q1, q2, q3, by simpa using q4⟩
    · have hgrow : cap < xs.length + ys.length → ∃ v w' M' N' own', (execOp ev o).run P w = .ok (.value v) w' ∧ M.Le M' ∧ N.Le N' ∧ SimO M' N' { S with tk := upd S.tk nm (some (e, sz)) } (fun n => fr n ∧ n ≠ nm) own' w' ∧ Rep M'.pc N' v (.sl (.tk nm) sz (xs ++ ys)) := by
        intro hlt
        have hr := run_append_grow (P := P) w T o.type e i z hT hi hz ⟨g, off, none⟩ xs.length cap olds (by rw [hsz]; exact hol) (fun j u hu => by rw [Addr.add_lit]; exact h.pc _ _ _ (hold j u hu)) ⟨gB, offB, none⟩ ys.length capB news (by rw [hsz]; exact hnl) hnews hlt h63 (growslice_fits hlt hbytes)
        rw [hv, hvB] at hexec
        obtain ⟨M', N', own', q1, q2, q3, q4⟩ := app_new (xs := xs) (ys := ys) (olds := olds) (news := news) (zs := Builtin.zeroCells z.cells (grownCap w (xs.length + ys.length) cap e - (xs.length + ys.length))) (cap := grownCap w (xs.length + ys.length) cap e) h hnm hro hrn hlx hly (grownCap_ge w _ _ _) (grownCap_le_maxLen w _ _ _ hml) (by rw [size_zeroCells, hzs])
          (One.drew_alloc w (.cells (olds.toArray ++ news.toArray ++ Builtin.zeroCells z.cells (grownCap w (xs.length + ys.length) cap e - (xs.length + ys.length))) e))
        exact ⟨_, _, M', N', own', hexec _ _ hr, q1, q2, q3, q4⟩
      rcases ht with ⟨Ad', n, hf⟩ | ⟨k, g', len, cap', cur, hf, hown, hdead, hh, hcs, him, hpc⟩
      · rw [hv] at hf
        injection hf with h1 h2 h3
        exact hgrow (by omega)
      · rw [hv] at hf
        injection hf with h1 h2 h3
        injection h1 with h1
        injection h1 with h1 h4
        subst h2; subst h3; subst h1; subst h4
        rcases Nat.lt_or_ge cap (xs.length + ys.length) with hlt | hge
        · exact hgrow hlt
        · have hr := run_append_room_fz (P := P) w T o.type e i hT hi g xs.length cap cur hh ⟨gB, offB, none⟩ ys.length capB news (by rw [hsz]; exact hnl) hnews hone hge (by rw [hsz, hcs, hnl, ← Nat.add_mul]; exact Nat.mul_le_mul_right _ hge)
          rw [hv, hvB] at hexec
          rw [hsz] at hr
          obtain ⟨M', N', own', q1, q2, q3, q4⟩ := app_room (k := k) h hnm hdead hown hh hcs him hpc (fun j u hu => by have := hold j u hu; rwa [Nat.zero_add] at this) hro hrn hlx hly hge hm
          exact ⟨_, _, M', N', own', hexec _ _ hr, q1, q2, q3, q4⟩
theorem d_app_full {T e : TypeId} {x y : Operand} {t' : Tk} {sz bytes : Nat} {xs ys : List (List D)} {i : TypeInfo} {z : Value} (h : SimO M N S fr own w) (hnm : fr nm) (ho : o.op = .call { callee := .builtin .append, args := #[x, y], argTypes := #[T, T] })
    (hT : P.underlying T = some (.slice e)) (hi : P.info? e = some i) (hz : i.zero = some z) (hsz : i.size = sz) (hby : i.bytes = bytes) (hzs : z.cells.size = sz) (h0 : 0 < sz) (hb0 : 0 < bytes)
    (hx : Rep M.pc N (ev x) (.sl .full sz xs)) (hy : Rep M.pc N (ev y) (.sl t' sz ys)) (hbytes : (xs.length + ys.length) * bytes ≤ 140737488355328) :
    Done P o ev M N S fr w nm (some (.one (.sl (.tk nm) sz (xs ++ ys)))) { nt := some (e, sz) } := by
  obtain ⟨v, w', M', N', own', h1, h2, h3, h4, h5⟩ := app_core h hnm ho hT hi hz hsz hby hzs h0 hb0 hx hy hbytes (.inl (by
    obtain ⟨Ad, cap, g, off, u, hv, _, _, _, _, _, _, ht⟩ := hx.sl_inv
    have ht : cap = xs.length := ht
    exact ⟨Ad, xs.length, by rw [hv, ht]⟩))
  exact ⟨some v, w', M', N', own', h1, h2, h3, h4, h5⟩
theorem d_app_tk {T e : TypeId} {x y : Operand} {k : Nat} {t' : Tk} {sz bytes : Nat} {xs ys : List (List D)} {i : TypeInfo} {z : Value} (h : SimO M N S fr own w) (hnm : fr nm) (ho : o.op = .call { callee := .builtin .append, args := #[x, y], argTypes := #[T, T] })
    (hT : P.underlying T = some (.slice e)) (hi : P.info? e = some i) (hz : i.zero = some z) (hsz : i.size = sz) (hby : i.bytes = bytes) (hzs : z.cells.size = sz) (h0 : 0 < sz) (hb0 : 0 < bytes)
    (hx : Rep M.pc N (ev x) (.sl (.tk k) sz xs)) (hk : S.tk k = some (e, sz)) (hy : Rep M.pc N (ev y) (.sl t' sz ys)) (hbytes : (xs.length + ys.length) * bytes ≤ 140737488355328) :
    Done P o ev M N S fr w nm (some (.one (.sl (.tk nm) sz (xs ++ ys)))) { kill := some k, nt := some (e, sz) } := by
  obtain ⟨v, w', M', N', own', h1, h2, h3, h4, h5⟩ := app_core (h.kill k) hnm ho hT hi hz hsz hby hzs h0 hb0 hx hy hbytes (by
    obtain ⟨Ad, cap, g, off, u, hv, _, _, _, _, _, _, ht⟩ := hx.sl_inv
    have ht : N.tk k = some (.slice Ad xs.length cap) := ht
    obtain ⟨v, hv1, hv2⟩ := h.tok k _ hk
    rw [ht] at hv1; injection hv1 with hv1; subst hv1
    rcases hv2 with ⟨Ad', n, hf⟩ | ⟨g', len, cap', cur, hf, q1, q2, q3, q4, q5, q6, q7⟩
    · exact .inl ⟨Ad', n, by rw [hv, hf]⟩
    · exact .inr ⟨k, g', len, cap', cur, by rw [hv, hf], q1, upd_same _ _ _, q2, q5, q6, q7⟩)
  exact ⟨some v, w', M', N', own', h1, h2, h3, h4, h5⟩
end
end Go.Proofs.YtbhingdlclfipaaDoor.Ab
