/- The layer digest: MD5's block. -/
import Derived.Test.YtbhingdlclfipaaDoorGc
namespace Go.Proofs.YtbhingdlclfipaaDoor.Ab
open Go Go.RowKit Go.Proofs
set_option linter.unusedVariables false
set_option linter.unusedSimpArgs false
variable (m : Int)
structure H4 where
  a : W
  b : W
  c : W
  d : W
def H4.D (h : H4) : List D := [wD h.a, wD h.b, wD h.c, wD h.d]
def wordL (least : Bool) (l : List UInt8) : W := wordP least (l.getD 0 0) (l.getD 1 0) (l.getD 2 0) (l.getD 3 0)
def mW (l : List UInt8) (i : Nat) : W := wordL true (l.drop (4 * i))
def sineP (i : Nat) : W := sineL.getD i 0
def stepP (l : List UInt8) (w : H4) (i : Nat) : H4 := ⟨w.d, w.b + rotP (w.a + (mixP w.b w.c w.d i).1 + sineP i + mW l (mixP w.b w.c w.d i).2) (turnsP i), w.b, w.c⟩
def roundsP (l : List UInt8) (w : H4) (n : Nat) : H4 := (List.range n).foldl (stepP l) w
def blockP (h : H4) (l : List UInt8) : H4 := let w := roundsP l h 64; ⟨h.a + w.a, h.b + w.b, h.c + w.c, h.d + w.d⟩
theorem roundsP_succ (l : List UInt8) (w : H4) (n : Nat) : roundsP l w (n + 1) = stepP l (roundsP l w n) n := by
  simp [roundsP, List.range_succ, List.foldl_append]
/-! ### callees -/
def wordS : List A → Option (Prop × A)
  | [.one (.sl .no 1 xs), .one (.v (.bool least))] => some (xs = byL (xs.map byteOf) ∧ 4 ≤ xs.length, wA (wordL least (xs.map byteOf)))
  | _ => none
theorem wordS_ok : ∀ l p r, wordS l = some (p, r) → p → AF Tryd.prog (gl0 m) 74 l r := by
  intro l p r h hp
  unfold wordS at h
  split at h
  · rename_i xs least
    simp only [Option.some.injEq, Prod.mk.injEq] at h; obtain ⟨rfl, rfl⟩ := h
    obtain ⟨h1, h2⟩ := hp
    have hl : 4 ≤ (xs.map byteOf).length := by simpa using h2
    rw [h1]
    generalize xs.map byteOf = l at hl h1
    rw [byL_byteOf]
    match l, hl with
    | a :: b :: c :: d :: r, _ => exact word_AF m a b c d r least
  · cases h
def mixS : List A → Option (Prop × A)
  | [.one (.v (.int .u32 b)), .one (.v (.int .u32 c)), .one (.v (.int .u32 d)), .one (.v (.int .i64 i))] => some ((b = wi (iw b) ∧ c = wi (iw c) ∧ d = wi (iw d)) ∧ 0 ≤ i ∧ i < 64, .tup [wA (mixP (iw b) (iw c) (iw d) i.toNat).1, .one (.v (.int .i64 (mixP (iw b) (iw c) (iw d) i.toNat).2))])
  | _ => none
theorem mixS_ok : ∀ l p r, mixS l = some (p, r) → p → AF Tryd.prog (gl0 m) 75 l r := by
  intro l p r h hp
  unfold mixS at h
  split at h
  · rename_i b c d i
    simp only [Option.some.injEq, Prod.mk.injEq] at h; obtain ⟨rfl, rfl⟩ := h
    obtain ⟨⟨h1, h2, h3⟩, h4, h5⟩ := hp
    have := mix_AF m (iw b) (iw c) (iw d) i.toNat (by omega)
    have e : ((i.toNat : Nat) : Int) = i := by omega
    rw [e] at this
    unfold wA wV at this ⊢
    rw [← h1, ← h2, ← h3] at this
    exact this
  · cases h
def rotS : List A → Option (Prop × A)
  | [.one (.v (.int .u32 b)), .one (.v (.int .i64 i))] => some (b = wi (iw b) ∧ 0 ≤ i ∧ i < 32, wA (rotP (iw b) i.toNat))
  | _ => none
theorem rotS_ok : ∀ l p r, rotS l = some (p, r) → p → AF Tryd.prog (gl0 m) 76 l r := by
  intro l p r h hp
  unfold rotS at h
  split at h
  · rename_i b i
    simp only [Option.some.injEq, Prod.mk.injEq] at h; obtain ⟨rfl, rfl⟩ := h
    obtain ⟨h1, h4, h5⟩ := hp
    have := rot_AF m (iw b) i.toNat (by omega)
    have e : ((i.toNat : Nat) : Int) = i := by omega
    rw [e] at this
    unfold wA wV at this ⊢
    rw [← h1] at this
    exact this
  · cases h
def turnsS : List A → Option (Prop × A)
  | [.one (.v (.int .i64 i))] => some (0 ≤ i ∧ i < 64, .one (.v (.int .i64 (turnsP i.toNat))))
  | _ => none
theorem turnsS_ok : ∀ l p r, turnsS l = some (p, r) → p → AF Tryd.prog (gl0 m) 77 l r := by
  intro l p r h hp
  unfold turnsS at h
  split at h
  · rename_i i
    simp only [Option.some.injEq, Prod.mk.injEq] at h; obtain ⟨rfl, rfl⟩ := h
    have := turns_AF m i.toNat (by omega)
    have e : ((i.toNat : Nat) : Int) = i := by omega
    rw [e] at this
    exact this
  · cases h
def md5Sp : Sp := spc 74 wordS (spc 75 mixS (spc 76 rotS (spc 77 turnsS fun _ _ => none)))
theorem md5Sp_ok : SpOK Tryd.prog (gl0 m) md5Sp := SpOK.cons (wordS_ok m) (SpOK.cons (mixS_ok m) (SpOK.cons (rotS_ok m) (SpOK.cons (turnsS_ok m) SpOK.none)))
/-! ### block -/
def mCells (l : List UInt8) (i : Nat) : List D := (List.range 16).map fun j => wD (if j < i then mW l j else 0)
theorem mCells_zero (l : List UInt8) : mCells l 0 = List.replicate 16 (.v (.int .u32 0)) := by rfl
theorem mCells_length (l : List UInt8) (i : Nat) : (mCells l i).length = 16 := by simp [mCells]
theorem mCells_set (l : List UInt8) (i : Nat) : (mCells l i).set i (wD (mW l i)) = mCells l (i + 1) := by
  apply List.ext_getElem?
  intro j
  simp only [mCells, List.getElem?_set, List.getElem?_map, List.length_map, List.length_range]
  by_cases hj : j < 16
  · rw [List.getElem?_range hj]
    by_cases hij : i = j
    · subst hij; simp [hj]
    · have e : (j < i + 1) = (j < i) := by rw [eq_iff_iff]; omega
      simp [hij, e]
  · rw [List.getElem?_eq_none (by simp; omega)]
    by_cases hij : i = j
    · subst hij; simp [hj]
    · simp [hij]
theorem mCells_get (l : List UInt8) (j : Nat) (hj : j < 16) : (mCells l 16)[j]? = some (wD (mW l j)) := by
  simp [mCells, List.getElem?_range hj, hj]
theorem mix_lt (b c d : W) (i : Nat) : i < 16 → (mixP b c d i).2 < 16 := by intro h; simp [mixP, h]
theorem mix_lt' (b c d : W) (i : Nat) : (mixP b c d i).2 < 16 := by
  unfold mixP
  split
  · rename_i h; exact h
  · split
    · show (5 * i + 1) % 16 < 16; omega
    · split
      · show (3 * i + 5) % 16 < 16; omega
      · show 7 * i % 16 < 16; omega
theorem sine_get (j : Nat) (hj : j < 64) : (sineL.map wD)[j]? = some (wD (sineP j)) := by
  have : sineL.length = 64 := rfl
  rw [List.getElem?_map, List.getElem?_eq_getElem (by omega)]
  simp [sineP, List.getD_eq_getElem?_getD, List.getElem?_eq_getElem (show j < sineL.length by omega)]
/-- The sums so far. -/
def sumC (h w : H4) (i : Nat) : List D := [wD (if 0 < i then h.a + w.a else h.a), wD (if 1 < i then h.b + w.b else h.b), wD (if 2 < i then h.c + w.c else h.c), wD (if 3 < i then h.d + w.d else h.d)]
set_option maxRecDepth 100000 in
set_option maxHeartbeats 4000000 in
theorem block_AFP (h : H4) (l : List UInt8) (hl : 64 ≤ l.length) (hl2 : l.length ≤ 1000000000) : AFP Tryd.prog (gl0 m) 64 [.tup [.agg h.D], .one (.sl .no 1 (byL l)), .tup [.agg (sineL.map wD)]] (.tup []) [(blockP h l).D, sineL.map wD] := by
  refine AFP_by (md5Sp_ok m) mixed F64_ok rfl (fun Ts hT => ?_)
  match Ts, hT with
  | [T1, T2], _ =>
  have hsl : sineL.map wD = sineL.map wD := rfl
  have hbl := byL_length l
  have hsing : ∀ j, j < 64 → (sineL.map wD)[j]? = some (wD (sineP j)) := sine_get
  have hslen : (sineL.map wD).length = 64 := rfl
  have hsclo : cloL (sineL.map wD) = some (sineL.map wD) := by rfl
  generalize sineL.map wD = sn at *
  have hblock : (blockP h l).D = sumC h (roundsP l h 64) 4 := rfl
  rw [hblock]
  simp [F64]
  rw [show ([D.v (Value.int IntKind.u32 0), D.v (Value.int IntKind.u32 0), D.v (Value.int IntKind.u32 0), D.v (Value.int IntKind.u32 0), D.v (Value.int IntKind.u32 0), D.v (Value.int IntKind.u32 0), D.v (Value.int IntKind.u32 0), D.v (Value.int IntKind.u32 0), D.v (Value.int IntKind.u32 0), D.v (Value.int IntKind.u32 0), D.v (Value.int IntKind.u32 0), D.v (Value.int IntKind.u32 0), D.v (Value.int IntKind.u32 0), D.v (Value.int IntKind.u32 0), D.v (Value.int IntKind.u32 0), D.v (Value.int IntKind.u32 0)] : List D) = mCells l 0 from rfl]
  refine awp_loop (fun k S => ∃ i, i + k = 16 ∧ S.env 14 = some (.one (.v (.int .i64 (i : Nat)))) ∧ S.env 0 = some (.one (.ptr 0 0)) ∧ S.env 1 = some (.one (.sl .no 1 (byL l))) ∧ S.env 2 = some (.one (.ptr 1 0)) ∧ S.env 6 = some (.one (.ptr 2 0)) ∧
    S.va 14 ∧ S.va 0 ∧ S.va 1 ∧ S.va 2 ∧ S.va 6 ∧ S.bx 0 = some (.cells T1 h.D) ∧ S.bx 1 = some (.cells T2 sn) ∧ S.bx 2 = some (.cells 105 (mCells l i)) ∧ 2 < S.nx) ⟨16, 0, ?_⟩ ?_
  · simp
  rintro k S ⟨i, hik, e14, e0, e1, e2, e6, v14, v0, v1, v2, v6, b0, b1, b2, hnx⟩
  by_cases hi : i < 16
  · have hi' : (i : Int) < 16 := by omega
    have w4i : IntKind.i64.wrap (4 * (i : Int)) = ((4 * i : Nat) : Int) := by rw [wrap_small _ (by omega) (by omega)]; omega
    have wi1 : IntKind.i64.wrap ((i : Int) + 1) = ((i + 1 : Nat) : Int) := by rw [wrap_small _ (by omega) (by omega)]; omega
    have hset := mCells_set l i
    have hml := mCells_length l i
    have h4i : 4 * i ≤ l.length := by omega
    have htake : List.take l.length (byL l) = byL l := List.take_of_length_le (by omega)
    generalize mCells l i = mc at *
    generalize hmc' : mCells l (i + 1) = mc' at *
    simp [e14, e0, e1, e2, e6, v14, v0, v1, v2, v6, b0, b1, b2, hi', hbl, w4i, -Int.natCast_mul, -Int.natCast_add, h4i, htake, byL_drop, md5Sp, wordS, byL_byteOf, byL_length, wA, wV, wD]
    subst hmc'
    exact ⟨⟨by omega, by omega⟩, k - 1, by omega, i + 1, by omega, wi1, hset⟩
  · have hi' : ¬ (i : Int) < 16 := by omega
    have hie : i = 16 := by omega
    subst hie
    have hmg := mCells_get l
    have hml := mCells_length l 16
    generalize mCells l 16 = mc at *
    simp [e14, e0, e1, e2, e6, v14, v0, v1, v2, v6, b0, b1, b2, H4.D, wD, wV]
    refine awp_loop (fun k S => ∃ i n, i + k = 64 ∧ S.env 28 = some (.one (.v (.int .i64 (i : Nat)))) ∧ S.env 0 = some (.one (.ptr 0 0)) ∧ S.env 2 = some (.one (.ptr 1 0)) ∧ S.env 6 = some (.one (.ptr 2 0)) ∧ S.env 8 = some (.one (.ptr n 0)) ∧
      S.va 28 ∧ S.va 0 ∧ S.va 2 ∧ S.va 6 ∧ S.va 8 ∧ S.bx 0 = some (.cells T1 h.D) ∧ S.bx 1 = some (.cells T2 sn) ∧ S.bx 2 = some (.cells 105 mc) ∧ S.bx n = some (.cells 92 (roundsP l h i).D) ∧ 2 < n ∧ n < S.nx) ⟨64, 0, S.nx + 1 + 3, ?_⟩ ?_
    · simp [e14, e0, e1, e2, e6, v14, v0, v1, v2, v6, b0, b1, b2, H4.D, wD, wV, roundsP]
    clear e14 e0 e1 e2 e6 v14 v0 v1 v2 v6 b0 b1 b2 hnx
    clear S
    rintro k S ⟨i, n, hik, e28, e0, e2, e6, e8, v28, v0, v2, v6, v8, b0, b1, b2, bn, hn, hnx⟩
    by_cases hi : i < 64
    · have hi' : (i : Int) < 64 := by omega
      have wi1 : IntKind.i64.wrap ((i : Int) + 1) = ((i + 1 : Nat) : Int) := by rw [wrap_small _ (by omega) (by omega)]; omega
      have hsg := hsing i hi
      have hr := roundsP_succ l h i
      generalize roundsP l h i = w at *
      have hml2 := mix_lt' w.b w.c w.d i
      have hmg2 := hmg _ hml2
      have htl := turnsP_lt i
      have c1 : ∀ a b c, 1 < S.nx + a + b + c := fun a b c => by omega
      have c2 : ∀ a b c, 2 < S.nx + a + b + c := fun a b c => by omega
      have cn : ∀ a b c, n < S.nx + a + b + c := fun a b c => by omega
      have hi64 : ((i : Nat) : Int) < 64 := by omega
      have m16 : (((mixP w.b w.c w.d i).2 : Nat) : Int) < 16 := by omega
      have t32 : ((turnsP i : Nat) : Int) < 32 := by omega
      have hms := (List.getElem?_eq_some_iff.1 hmg2).2
      have hss := (List.getElem?_eq_some_iff.1 hsg).2
      have hil : i < sn.length := by omega
      have hml3 : (mixP w.b w.c w.d i).2 < mc.length := by omega
      simp [c1, c2, cn, hi64, m16, t32, hms, hss, hil, hml3, hmg2, hsg, rotS, turnsS, w_add, e28, e0, e2, e6, e8, v28, v0, v2, v6, v8, b0, b1, b2, bn, hi', H4.D, md5Sp, mixS, wD, wA, wV, iw_wi]
      exact ⟨⟨by omega, by omega⟩, k - 1, by omega, i + 1, by omega, wi1, fun h => absurd h (by omega), fun h => absurd h (by omega), by omega, ⟨by rw [hr]; rfl, by rw [hr]; rfl, by rw [hr]; rfl, by rw [hr]; rfl⟩, by omega, by omega⟩
    · have hi' : ¬ (i : Int) < 64 := by omega
      have hie : i = 64 := by omega
      subst hie
      generalize roundsP l h 64 = w at *
      simp [e28, e0, e2, e6, e8, v28, v0, v2, v6, v8, b0, b1, b2, bn]
      refine awp_loop (fun k S => ∃ i, i + k = 4 ∧ S.env 71 = some (.one (.v (.int .i64 (i : Nat)))) ∧ S.env 0 = some (.one (.ptr 0 0)) ∧ S.env 8 = some (.one (.ptr n 0)) ∧
        S.va 71 ∧ S.va 0 ∧ S.va 8 ∧ S.bx 0 = some (.cells T1 (sumC h w i)) ∧ S.bx 1 = some (.cells T2 sn) ∧ S.bx n = some (.cells 92 w.D) ∧ n < S.nx) ⟨4, 0, ?_⟩ ?_
      · simp [e28, e0, e2, e6, e8, v28, v0, v2, v6, v8, b0, b1, b2, bn, H4.D, sumC]
        omega
      clear e28 e0 e2 e6 e8 v28 v0 v2 v6 v8 b0 b1 b2 bn hnx
      clear S
      rintro k S ⟨i, hik, e71, e0, e8, v71, v0, v8, b0, b1, bn, hnx⟩
      by_cases hi : i < 4
      · have hi' : (i : Int) < 4 := by omega
        have wi1 : IntKind.i64.wrap ((i : Int) + 1) = ((i + 1 : Nat) : Int) := by rw [wrap_small _ (by omega) (by omega)]; omega
        have cn : ∀ a b, n < S.nx + a + b := fun a b => by omega
        have hn0 : ¬ n = 0 := by omega
        have hn1 : ¬ 1 = n := by omega
        have hs : i = 0 ∨ i = 1 ∨ i = 2 ∨ i = 3 := by omega
        rcases hs with rfl | rfl | rfl | rfl
        all_goals simp [e71, e0, e8, v71, v0, v8, b0, b1, bn, H4.D, sumC, wD, wV, cn, w_add, hn0]
        · exact ⟨k - 1, by omega, 1, by omega, by decide, by simp, by omega⟩
        · exact ⟨k - 1, by omega, 2, by omega, by decide, by simp, by omega⟩
        · exact ⟨k - 1, by omega, 3, by omega, by decide, by simp, by omega⟩
        · exact ⟨k - 1, by omega, 4, by omega, by decide, by simp, by omega⟩
      · have hi' : ¬ (i : Int) < 4 := by omega
        have hie : i = 4 := by omega
        subst hie
        simp [e71, e0, e8, v71, v0, v8, b0, b1, bn, H4.D, sumC, wD, wV]
        exact hsclo
end Go.Proofs.YtbhingdlclfipaaDoor.Ab
