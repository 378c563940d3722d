/- The layer subs, part 8: small; what a step tells. -/
import Derived.Test.YtmhhpcjiejpcfaaDoorFg
namespace Go.Proofs.YtmhhpcjiejpcfaaDoor.Ab
open Go Go.RowKit Go.Proofs
set_option linter.unusedVariables false
set_option linter.unusedSimpArgs false
variable (m : Int)
def Act.len (a : Act) : Nat := a.s.size + a.alias.size + a.group.size + a.n.name.size + a.x.wish.name.size + a.it.name.size
def smallGo : Nat → Nat → List Act → Nat
  | n, _, [] => n
  | n, i, a :: l => if i ≤ 60 ∧ n ≤ 8000 then smallGo (n + a.len) (i + 1) l else n
def smallP (c : Contact) (l : List Act) : Bool := decide (l.length ≤ 60 ∧ smallGo c.name.size 0 l ≤ 8000)
theorem smallGo_le : ∀ (l : List Act) (n i : Nat), n ≤ smallGo n i l
  | [], n, i => Nat.le_refl _
  | a :: l, n, i => by
    unfold smallGo
    split
    · exact Nat.le_trans (Nat.le_add_right _ _) (smallGo_le l _ _)
    · exact Nat.le_refl _
theorem smallGo_mem : ∀ (l : List Act) (n i : Nat), i + l.length ≤ 60 → smallGo n i l ≤ 8000 → ∀ a ∈ l, a.len ≤ 8000
  | [], n, i, _, _, a, ha => by cases ha
  | x :: l, n, i, hi, h, a, ha => by
    have hn := Nat.le_trans (smallGo_le (x :: l) n i) h
    simp only [List.length_cons] at hi
    unfold smallGo at h
    rw [if_pos ⟨by omega, hn⟩] at h
    rcases List.mem_cons.1 ha with rfl | ha
    · exact Nat.le_trans (Nat.le_add_left _ _) (Nat.le_trans (smallGo_le l _ _) h)
    · exact smallGo_mem l _ _ (by omega) h a ha
set_option maxRecDepth 100000 in
set_option maxHeartbeats 4000000 in
theorem small_AF (c : Contact) (l : List Act) (h1 : c.name.size ≤ 1125899906842624) (h2 : ∀ a ∈ l, a.len ≤ 1125899906842624) (h3 : l.length ≤ 1125899906842624) :
    AF Tryd.prog (gl0 m) 13 [.agg c.d, .one (.sl .no 27 (l.map Act.d))] (.one (.v (.bool (smallP c l)))) := by
  refine AF_by SpOK.none mixed F13_ok ?_
  have hcd : c.d = [.v (.string c.name), .v (.bool c.sub), .v (.bool c.pend), .v (.bool c.await), .v (.bool c.frm), .v (.bool c.ask), .v (.bool c.on), .v (.int .i64 c.status), .v (.int .i64 c.idle)] := rfl
  simp [F13, hcd]
  have hlen : (l.map Act.d).length = l.length := List.length_map _
  have hget : ∀ (i : Nat) (a : Act), l[i]? = some a → (l.map Act.d)[i]? = some a.d := fun i a h => by rw [List.getElem?_map, h]; rfl
  generalize l.map Act.d = xs at *
  unfold smallP
  generalize htot : smallGo c.name.size 0 l = tot at *
  refine awp_loop (fun k S => ∃ i n, i + k = l.length ∧ n ≤ 10125899906942624 ∧ smallGo n i (l.drop i) = tot ∧ S.env 1 = some (.one (.sl .no 27 xs)) ∧ S.env 5 = some (.one (.v (.int .i64 (n : Nat)))) ∧ S.env 6 = some (.one (.v (.int .i64 (i : Nat)))) ∧ S.va 1 ∧ S.va 5 ∧ S.va 6) ⟨l.length, 0, c.name.size, ?_⟩ ?_
  · refine ⟨by omega, by omega, by simpa using htot, ?_⟩
    simp
  rintro k S ⟨i, n, hik, hn, hg, e1, e5, e6, v1, v5, v6⟩
  by_cases hi : i < l.length
  · have hdrop := List.drop_eq_getElem_cons hi
    have ha2 := h2 l[i] (List.getElem_mem hi)
    have hgi := hget i l[i] (List.getElem?_eq_getElem hi)
    generalize l[i] = a at *
    rw [hdrop] at hg
    unfold smallGo at hg
    by_cases hc : i ≤ 60 ∧ n ≤ 8000
    · obtain ⟨c1, c2⟩ := hc
      rw [if_pos ⟨c1, c2⟩] at hg
      have c1' : (i : Int) ≤ 60 := by omega
      have c2' : (n : Int) ≤ 8000 := by omega
      have hi' : i < xs.length := by omega
      obtain ⟨kind, s, al, gr, ⟨k', xn, xt, xd, xc, xs', xi, xtm, xo, items, codes⟩, ⟨⟨wk, wn, wa, wg, ww⟩, xcode⟩, ⟨iname, ig, ii, ity, ia, iw⟩⟩ := a
      simp only [Act.len] at ha2 hg
      simp only [Act.d, Note.d, Deal.d, Wish.d, Item.d, List.cons_append, List.nil_append] at hgi
      have w1 : IntKind.i64.wrap ((n : Int) + (s.size : Int)) = (n : Int) + (s.size : Int) := wrap_small _ (by omega) (by omega)
      have w2 : IntKind.i64.wrap ((n : Int) + (s.size : Int) + (al.size : Int)) = (n : Int) + (s.size : Int) + (al.size : Int) := wrap_small _ (by omega) (by omega)
      have w3 : IntKind.i64.wrap ((n : Int) + (s.size : Int) + (al.size : Int) + (gr.size : Int)) = (n : Int) + (s.size : Int) + (al.size : Int) + (gr.size : Int) := wrap_small _ (by omega) (by omega)
      have w4 : IntKind.i64.wrap ((n : Int) + (s.size : Int) + (al.size : Int) + (gr.size : Int) + (xn.size : Int)) = (n : Int) + (s.size : Int) + (al.size : Int) + (gr.size : Int) + (xn.size : Int) := wrap_small _ (by omega) (by omega)
      have w5 : IntKind.i64.wrap ((n : Int) + (s.size : Int) + (al.size : Int) + (gr.size : Int) + (xn.size : Int) + (wn.size : Int)) = (n : Int) + (s.size : Int) + (al.size : Int) + (gr.size : Int) + (xn.size : Int) + (wn.size : Int) := wrap_small _ (by omega) (by omega)
      have w6 : IntKind.i64.wrap ((n : Int) + (s.size : Int) + (al.size : Int) + (gr.size : Int) + (xn.size : Int) + (wn.size : Int) + (iname.size : Int)) = (n : Int) + (s.size : Int) + (al.size : Int) + (gr.size : Int) + (xn.size : Int) + (wn.size : Int) + (iname.size : Int) := wrap_small _ (by omega) (by omega)
      have w7 : IntKind.i64.wrap ((i : Int) + 1) = (i : Int) + 1 := wrap_small _ (by omega) (by omega)
      have hgi' := (List.getElem?_eq_some_iff.1 hgi).2
      simp [e1, e5, e6, v1, v5, v6, hi, hi', hlen, hgi, hgi', c1', c2', w1, w2, w3, w4, w5, w6, w7]
      refine ⟨k - 1, by omega, i + 1, by omega, n + s.size + al.size + gr.size + xn.size + wn.size + iname.size, by omega, ?_, by push_cast; rfl, by push_cast; rfl⟩
      rw [← hg]; congr 1; omega
    · rw [if_neg hc] at hg
      have hcc : ¬ ((i : Int) ≤ 60 ∧ (n : Int) ≤ 8000) := by omega
      simp [e1, e5, e6, v1, v5, v6, hi, hlen, hcc]
      subst hg; rw [Bool.eq_iff_iff]; simp; omega
  · have hg' : tot = n := by
      rw [List.drop_eq_nil_of_le (by omega)] at hg; exact hg.symm
    simp [e1, e5, e6, v1, v5, v6, hi, hlen]
    subst hg'; rw [Bool.eq_iff_iff]; simp; omega
/-- What a step tells. -/
structure Good (c d : Contact) (t : Turn) (x : Bool) : Prop where
  pres : ∀ p ∈ t.pres, (p = kNone ∧ d.sub = true ∧ d.on = true) ∨ (p = kUnav ∧ c.sub = true ∧ d.on = false) ∨ p = kSub ∨ p = kSubd ∨ p = kUnsubd
  may : d.sub = true → c.sub = false → kSubd ∈ t.pres
  nt : d.sub = false → c.sub = true → kUnsubd ∈ t.pres ∨ x = true
  name : d.name = c.name
  w : t.wishes.length ≤ 1
  n : t.notes.length ≤ 1
  len : t.pres.length ≤ 3
theorem shownP_good {c : Contact} {l : List ByteArray} {p : ByteArray} (h : p ∈ shownP c l) : (p = kNone ∧ c.sub = true ∧ c.on = true) ∨ p ∈ l := by
  unfold shownP at h
  split at h
  · rename_i hc
    simp only [Bool.and_eq_true] at hc
    rcases List.mem_append.1 h with h | h
    · exact .inr h
    · exact .inl ⟨by simpa using h, hc.1, hc.2⟩
  · exact .inr h
theorem shownP_len {c : Contact} {l : List ByteArray} : (shownP c l).length ≤ l.length + 1 := by
  unfold shownP; split <;> simp
theorem shownP_mem {c : Contact} {l : List ByteArray} {p : ByteArray} (h : p ∈ l) : p ∈ shownP c l := by
  unfold shownP; split
  · exact List.mem_append.2 (.inl h)
  · exact h
theorem good_same (c : Contact) (x : Bool) : Good c c noT x := ⟨by simp [noT], by simp_all, by simp_all, rfl, by simp [noT], by simp [noT], by simp [noT]⟩
theorem good_seen (c d : Contact) (x : Bool) (h1 : d.sub = true) (h2 : d.on = c.on) (h3 : d.name = c.name) : Good c d (seenT c) x := by
  refine ⟨fun p hp => ?_, fun _ _ => shownP_mem (by simp), fun h => (by rw [h1] at h; cases h), h3, by simp [seenT], by simp [seenT], ?_⟩
  · rcases shownP_good hp with ⟨a, b, e⟩ | h
    · exact .inl ⟨a, h1, by rw [h2]; exact e⟩
    · exact .inr (.inr (.inr (.inl (by simpa using h))))
  · exact Nat.le_trans shownP_len (by simp)
theorem good_user (c : Contact) (k a g : ByteArray) (x : Bool) : Good c (userP c k a g).1 (userP c k a g).2 x := by
  unfold userP
  split
  · split
    · rename_i h
      refine ⟨fun p hp => ?_, by simp_all, by simp_all, rfl, by simp, by simp, Nat.le_trans shownP_len (by simp)⟩
      rcases shownP_good hp with ⟨a, b, e⟩ | h
      · exact .inl ⟨a, b, e⟩
      · exact .inr (.inr (.inr (.inl (by simpa using h))))
    · exact ⟨by simp, by simp_all, by simp_all, rfl, by simp, by simp, by simp⟩
  · split
    · refine ⟨by simp, by simp [unseenC], by simp, rfl, ?_, by simp, by simp⟩
      simp only
      split <;> simp
    · split
      · split
        · exact ⟨by simp, by simp_all, by simp_all, rfl, by simp, by simp, by simp⟩
        · exact good_same c x
      · split
        · refine ⟨by simp, by simp_all, by simp_all, rfl, by simp, ?_, by simp⟩
          simp only
          split <;> simp
        · exact good_same c x
theorem good_heard (c : Contact) (n : Note) (x : Bool) : Good c (heardP c n).1 (heardP c n).2 x := by
  unfold heardP
  split
  · exact good_same c x
  · split
    · refine ⟨fun p hp => ?_, by simp_all, by simp_all, rfl, by simp, by simp, Nat.le_trans shownP_len (by simp)⟩
      rcases shownP_good hp with ⟨a, b, e⟩ | h
      · exact .inl ⟨a, b, e⟩
      · simp at h
    · split
      · split
        · exact good_same c x
        · refine ⟨?_, by simp_all, by simp_all, rfl, by simp, by simp, ?_⟩
          · simp only
            split <;> simp_all
          · simp only
            split <;> simp
      · split
        · split
          · split
            · exact good_seen c _ x rfl rfl rfl
            · exact ⟨by simp, by simp_all, by simp_all, rfl, by simp, by simp, by simp⟩
          · exact good_same c x
        · split
          · split
            · exact ⟨by simp, by simp_all, by simp_all, rfl, by simp, by simp, by simp⟩
            · exact ⟨by simp, by simp_all, by simp_all, rfl, by simp, by simp, by simp⟩
          · exact good_same c x
theorem good_dealt (c : Contact) (n : Deal) (x : Bool) : Good c (dealtP c n).1 (dealtP c n).2 x := by
  unfold dealtP
  split
  · exact good_same c x
  · split
    · exact ⟨by simp [noT], by simp_all, by simp_all, rfl, by simp [noT], by simp [noT], by simp [noT]⟩
    · split
      · exact ⟨by simp, by simp_all, by simp_all, rfl, by simp, by simp, by simp⟩
      · exact good_seen c _ x rfl rfl rfl
theorem good_does (c : Contact) (a : Act) : Good c (doesP c a).1 (doesP c a).2 (decide (a.kind = 3) && a.it.await) := by
  unfold doesP
  split
  · exact good_user ..
  · split
    · exact good_heard ..
    · split
      · exact good_dealt ..
      · split
        · rename_i hk
          unfold listedP
          split
          · exact good_same ..
          · split
            · rename_i hx
              exact ⟨by simp [noT], by simp, by simp [hk, hx], rfl, by simp [noT], by simp [noT], by simp [noT]⟩
            · split
              · exact good_seen c _ _ rfl rfl rfl
              · exact good_same ..
        · simp only [goneC, goneT]
          split
          · exact ⟨by simp, by simp [unseenC], by simp, rfl, by simp, by simp, by simp⟩
          · exact good_same ..
end Go.Proofs.YtmhhpcjiejpcfaaDoor.Ab
