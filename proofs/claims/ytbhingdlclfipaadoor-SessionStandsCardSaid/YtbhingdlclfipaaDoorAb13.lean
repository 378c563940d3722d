/- An abstract calculus over pure data, part 13: a region whose order is drawn. -/
import Derived.Test.YtbhingdlclfipaaDoorAb12
namespace Go.Proofs.YtbhingdlclfipaaDoor.Ab
open Go Go.RowKit
set_option linter.unusedVariables false
set_option linter.unusedSimpArgs false

/-! ### what waits for what -/
def maskOf (acc : List Nat) : List Nat → Nat
  | [] => 0
  | k :: r => 2 ^ k ||| acc.getD k 0 ||| maskOf acc r
def masks : List R → List Nat → List Nat
  | [], acc => acc
  | r :: rs, acc => masks rs (acc ++ [maskOf acc r.af])
theorem maskOf_bit {acc : List Nat} {k : Nat} : ∀ {af : List Nat}, (maskOf acc af).testBit k = true → k ∈ af ∨ ∃ q ∈ af, (acc.getD q 0).testBit k = true
  | [], h => by simp [maskOf] at h
  | x :: r, h => by
    simp only [maskOf, Nat.testBit_or, Bool.or_eq_true, Nat.testBit_two_pow, decide_eq_true_eq] at h
    rcases h with (h | h) | h
    · exact .inl (by simp [h])
    · exact .inr ⟨x, by simp, h⟩
    · rcases maskOf_bit h with h | ⟨q, hq, h⟩
      · exact .inl (by simp [h])
      · exact .inr ⟨q, by simp [hq], h⟩
/-- Whatever is listed has all that it waits for listed. -/
def Down (rs : List R) (l : Nat → Bool) : Prop := ∀ (i : Nat) (r : R), rs[i]? = some r → l i = true → ∀ k ∈ r.af, l k = true
theorem masks_good {l : Nat → Bool} : ∀ (rs : List R) (acc : List Nat), (∀ i r, rs[i]? = some r → l (acc.length + i) = true → ∀ k ∈ r.af, l k = true) → (∀ i, l i = true → ∀ k, (acc.getD i 0).testBit k = true → l k = true) →
    ∀ i, l i = true → ∀ k, ((masks rs acc).getD i 0).testBit k = true → l k = true
  | [], acc, _, h => h
  | r :: rs, acc, hd, h => by
    refine masks_good rs (acc ++ [maskOf acc r.af]) (fun i q hq hl => ?_) (fun i hi k hk => ?_)
    · refine hd (i + 1) q (by simpa using hq) ?_
      simp only [List.length_append, List.length_singleton] at hl
      rw [show acc.length + (i + 1) = acc.length + 1 + i by omega]; exact hl
    · rcases Nat.lt_trichotomy i acc.length with hlt | heq | hgt
      · rw [List.getD_eq_getElem?_getD, List.getElem?_append_left hlt, ← List.getD_eq_getElem?_getD] at hk
        exact h i hi k hk
      · subst heq
        rw [List.getD_eq_getElem?_getD, List.getElem?_append_right (Nat.le_refl _)] at hk
        simp only [Nat.sub_self, List.getElem?_cons_zero, Option.getD_some] at hk
        have hd0 := hd 0 r rfl hi
        rcases maskOf_bit hk with hk | ⟨q, hq, hk⟩
        · exact hd0 k hk
        · exact h q (hd0 q hq) k hk
      · rw [List.getD_eq_getElem?_getD, List.getElem?_eq_none (by simp; omega)] at hk
        simp at hk
theorem masks_len : ∀ (rs : List R) (acc : List Nat), (masks rs acc).length = acc.length + rs.length
  | [], acc => by simp [masks]
  | r :: rs, acc => by rw [masks, masks_len rs]; simp; omega
theorem masks_old : ∀ (rs : List R) (acc : List Nat) (i : Nat), i < acc.length → (masks rs acc)[i]? = acc[i]?
  | [], acc, i, _ => rfl
  | r :: rs, acc, i, h => by rw [masks, masks_old rs _ i (by simp; omega), List.getElem?_append_left h]
/-- What a mask tells: one that is waited for, or one that such a one waits for. -/
theorem masks_bit : ∀ (rs : List R) (acc : List Nat) (i : Nat) (r : R) (k : Nat), rs[i]? = some r → ((masks rs acc).getD (acc.length + i) 0).testBit k = true → k ∈ r.af ∨ ∃ q ∈ r.af, ((masks rs acc).getD q 0).testBit k = true
  | [], acc, i, r, k, h, _ => by simp at h
  | x :: rs, acc, i, r, k, h, hk => by
    cases i with
    | zero =>
      simp only [List.getElem?_cons_zero, Option.some.injEq] at h; subst h
      rw [masks, List.getD_eq_getElem?_getD, masks_old rs _ _ (by simp), Nat.add_zero, List.getElem?_append_right (Nat.le_refl _)] at hk
      simp only [Nat.sub_self, List.getElem?_cons_zero, Option.getD_some] at hk
      rcases maskOf_bit hk with hk | ⟨q, hq, hk⟩
      · exact .inl hk
      · refine .inr ⟨q, hq, ?_⟩
        rcases Nat.lt_or_ge q acc.length with hlt | hge
        · rw [masks, List.getD_eq_getElem?_getD, masks_old rs _ _ (by simp; omega), List.getElem?_append_left hlt, ← List.getD_eq_getElem?_getD]; exact hk
        · rw [List.getD_eq_getElem?_getD, List.getElem?_eq_none hge] at hk; simp at hk
    | succ i =>
      have := masks_bit rs (acc ++ [maskOf acc x.af]) i r k (by simpa using h) (by
        rw [masks] at hk
        rw [show (acc ++ [maskOf acc x.af]).length + i = acc.length + (i + 1) by simp; omega]; exact hk)
      simpa [masks] using this

def allBelow (n : Nat) (p : Nat → Bool) : Bool := (List.range n).all p
theorem allBelow_spec {n : Nat} {p : Nat → Bool} (h : allBelow n p = true) : ∀ i, i < n → p i = true := by
  intro i hi
  simp only [allBelow, List.all_eq_true, List.mem_range] at h
  exact h i hi
def pureOf (rs : List R) (k : Nat) : Bool := match rs[k]? with | some r => r.op.isPure | none => false
def stOf (rs : List R) (k : Nat) : Bool := match rs[k]? with | some r => isSt r.op | none => false
def dstOf (rs : List R) (i : Nat) : Option Nat := (rs[i]?).bind (·.dst)
/-- Whoever has a part in a slot is ordered with who writes it; whoever is said to be ordered with all is. -/
def orderOK (rs : List R) : Bool :=
  let ms := masks rs []
  allBelow rs.length fun i => match rs[i]? with
    | none => true
    | some r =>
      (r.af.all fun k => decide (k < i)) &&
      (!r.bar || (!r.op.isPure && allBelow rs.length fun k => k == i || pureOf rs k || (ms.getD (max i k) 0).testBit (min i k))) &&
      (allBelow i fun k => pureOf rs k || r.op.isPure || !(isSt r.op || stOf rs k) || (ms.getD i 0).testBit k || r.cr.contains k) &&
      (allBelow rs.length fun k => k == i || (match dstOf rs k with | none => true | some s => !(r.looks.contains s || r.dst == some s) || (ms.getD (max i k) 0).testBit (min i k)))
structure Ordered (rs : List R) (ms : List Nat) : Prop where
  af : ∀ (i : Nat) (r : R), rs[i]? = some r → ∀ k ∈ r.af, k < i
  bar : ∀ (i : Nat) (r : R), rs[i]? = some r → r.bar = true → r.op.isPure = false ∧ ∀ k, k < rs.length → k ≠ i → pureOf rs k = false → (ms.getD (max i k) 0).testBit (min i k) = true
  crit : ∀ (i : Nat) (r : R), rs[i]? = some r → ∀ k, k < i → pureOf rs k = false → r.op.isPure = false → (isSt r.op = true ∨ stOf rs k = true) → (ms.getD i 0).testBit k = true ∨ k ∈ r.cr
  slot : ∀ (i : Nat) (r : R), rs[i]? = some r → ∀ k s, k < rs.length → k ≠ i → dstOf rs k = some s → (s ∈ r.looks ∨ r.dst = some s) → (ms.getD (max i k) 0).testBit (min i k) = true
theorem orderOK_spec {rs : List R} (h : orderOK rs = true) : Ordered rs (masks rs []) := by
  have h1 : ∀ i r, rs[i]? = some r → _ := fun i r hr => by
    have := allBelow_spec h i (List.getElem?_eq_some_iff.1 hr).1
    simp only [hr, Bool.and_eq_true, List.all_eq_true, decide_eq_true_eq] at this
    exact this
  refine ⟨fun i r hr k hk => (h1 i r hr).1.1.1 k hk, fun i r hr hb => ?_, fun i r hr k hk hp hp' hst => ?_, fun i r hr k s hk hne hd hs => ?_⟩
  · have h2 := (h1 i r hr).1.1.2
    rw [hb] at h2
    simp only [Bool.not_true, Bool.false_or, Bool.and_eq_true, Bool.not_eq_true'] at h2
    refine ⟨h2.1, fun k hk hne hpu => ?_⟩
    have := allBelow_spec h2.2 k hk
    simpa [hne, hpu] using this
  · have := allBelow_spec (h1 i r hr).1.2 k hk
    have hst' : (isSt r.op || stOf rs k) = true := by rcases hst with h | h <;> simp [h]
    simp only [hp, hp', hst', Bool.not_true, Bool.or_false, Bool.false_or, Bool.or_eq_true] at this
    rcases this with h | h
    · exact .inl h
    · exact .inr (List.contains_iff_mem.1 h)
  · have := allBelow_spec (h1 i r hr).2 k hk
    simp only [hd, Bool.or_eq_true, beq_iff_eq, hne, false_or, Bool.not_eq_true', Bool.or_eq_false_iff] at this
    rcases this with ⟨h3, h4⟩ | h3
    · exfalso
      rcases hs with hs | hs
      · have : r.looks.contains s = true := List.contains_iff_mem.2 hs
        rw [this] at h3; cases h3
      · rw [hs] at h4; simp at h4
    · exact h3

/-! ### the last that is listed and has a property -/
def lastL (p : Nat → Bool) : Nat → Nat
  | 0 => 0
  | j + 1 => if p j then j + 1 else lastL p j
theorem lastL_le (p : Nat → Bool) : ∀ j, lastL p j ≤ j
  | 0 => Nat.le_refl _
  | j + 1 => by
    simp only [lastL]
    split
    · exact Nat.le_refl _
    · exact Nat.le_succ_of_le (lastL_le p j)
theorem lastL_none (p : Nat → Bool) : ∀ j i, lastL p j ≤ i → i < j → p i = false
  | 0, i, _, h => by omega
  | j + 1, i, h, hi => by
    simp only [lastL] at h
    split at h
    · omega
    · rename_i hp
      rcases Nat.lt_or_ge i j with hlt | hge
      · exact lastL_none p j i h hlt
      · have : i = j := by omega
        subst this; simpa using hp
theorem lastL_some (p : Nat → Bool) : ∀ j i, lastL p j = i + 1 → p i = true ∧ i < j
  | 0, i, h => by simp [lastL] at h
  | j + 1, i, h => by
    simp only [lastL] at h
    split at h
    · rename_i hp
      have : j = i := by omega
      subst this; exact ⟨hp, Nat.lt_succ_self _⟩
    · obtain ⟨h1, h2⟩ := lastL_some p j i h; exact ⟨h1, by omega⟩
theorem lastL_eq (p : Nat → Bool) (j i : Nat) (hi : i < j) (hp : p i = true) (hno : ∀ k, i < k → k < j → p k = false) : lastL p j = i + 1 := by
  rcases Nat.lt_trichotomy (lastL p j) (i + 1) with h | h | h
  · have := lastL_none p j i (by omega) hi
    rw [hp] at this; cases this
  · exact h
  · obtain ⟨k, hk⟩ : ∃ k, lastL p j = k + 1 := ⟨lastL p j - 1, by omega⟩
    obtain ⟨h1, h2⟩ := lastL_some p j k hk
    have := hno k (by omega) h2
    rw [h1] at this; cases this
theorem lastL_congr {p q : Nat → Bool} : ∀ j, (∀ i, i < j → p i = q i) → lastL p j = lastL q j
  | 0, _ => rfl
  | j + 1, h => by simp only [lastL, h j (Nat.lt_succ_self _), lastL_congr j fun i hi => h i (by omega)]

/-! ### a thing that is named, in the middle of the region -/
section
variable {α : Type} {F : Nat → Nat → Option α} {base m : Nat} {bar : Nat → Bool} {W : Nat → Nat → Bool}
/-- The last that is listed and is a barrier, or writes n. -/
def lwb (bar : Nat → Bool) (W : Nat → Nat → Bool) (m : Nat) (l : Nat → Bool) (n : Nat) : Nat := lastL (fun k => l k && (bar k || W k n)) m
/-- Of the snapshots F: what is there if l is listed; b is behind the last barrier that is listed. -/
def sx (F : Nat → Nat → Option α) (base b : Nat) (j : Nat → Nat) (l : Nat → Bool) (n : Nat) : Option α := if n < base + b then F (j n) n else if l (n - base) then F (n - base + 1) n else none
theorem still {u v n : Nat} (h1 : ∀ k, u ≤ k → k < v → bar k = false ∧ W k n = false ∧ n ≠ base + k) (hF : ∀ k, bar k = false → k < m → ∀ n, n ≠ base + k → W k n = false → F (k + 1) n = F k n) (hv : v ≤ m) (huv : u ≤ v) : F v n = F u n := by
  induction v with
  | zero => have : u = 0 := by omega
            rw [this]
  | succ v ih =>
    rcases Nat.lt_or_ge u (v + 1) with h | h
    · obtain ⟨q1, q2, q3⟩ := h1 v (by omega) (by omega)
      rw [hF v q1 (by omega) n q3 q2]
      exact ih (fun k hk hk' => h1 k hk (by omega)) (by omega) (by omega)
    · have : u = v + 1 := by omega
      rw [this]
theorem sx_all {b i : Nat} {l : Nat → Bool} {j : Nat → Nat} (hj : ∀ n, b ≤ j n ∧ j n ≤ i) (hjn : ∀ n k, j n ≤ k → k < i → bar k = false ∧ W k n = false) (him : i ≤ m) (hl : ∀ k, k < i → l k = true ∨ F (k + 1) (base + k) = none) (hb : b ≤ i)
    (hnb : ∀ k, b ≤ k → k < i → bar k = false ∧ ∀ n, W k n = true → n < base + b) (hF : ∀ k, bar k = false → k < m → ∀ n, n ≠ base + k → W k n = false → F (k + 1) n = F k n)
    (hnone : ∀ n, base + i ≤ n → F i n = none) {n : Nat} {c : α} (h : F i n = some c) : sx F base b j l n = some c := by
  have hlt : n < base + i := by
    rcases Nat.lt_or_ge n (base + i) with h' | h'
    · exact h'
    · rw [hnone n h'] at h; cases h
  unfold sx
  split
  · rename_i hn
    have hst := still (F := F) (bar := bar) (W := W) (m := m) (base := base) (u := j n) (v := i) (n := n) (fun k hk hk' => ⟨(hjn n k hk hk').1, (hjn n k hk hk').2, by have := (hj n).1; omega⟩) hF him (hj n).2
    rw [← hst]; exact h
  · rename_i hn
    have hst := still (F := F) (bar := bar) (W := W) (m := m) (base := base) (u := n - base + 1) (v := i) (n := n) (fun k hk hk' => by
      obtain ⟨q1, q2⟩ := hnb k (by omega) hk'
      refine ⟨q1, ?_, by omega⟩
      cases hW : W k n with
      | false => rfl
      | true => exact absurd (q2 n hW) hn) hF him (by omega)
    rcases hl (n - base) (by omega) with hl | hl
    · rw [if_pos hl, ← hst]; exact h
    · rw [show base + (n - base) = n by omega] at hl
      rw [hst, hl] at h; cases h
end
end Go.Proofs.YtbhingdlclfipaaDoor.Ab
