/- The layer session, part 17: the document's md5: what is filled in; bytes out of words. -/
import Derived.Test.YtbhingdlclfipaaDoorGq
namespace Go.Proofs.YtbhingdlclfipaaDoor.Ab
open Go Go.RowKit Go.Proofs
set_option linter.unusedVariables false
set_option linter.unusedSimpArgs false
variable {m : Int}
/-- The bytes of a length, the least first. -/
def nB (n : Nat) : List UInt8 := [UInt8.ofNat n, UInt8.ofNat (n / 256), UInt8.ofNat (n / 65536), UInt8.ofNat (n / 16777216), UInt8.ofNat (n / 4294967296), UInt8.ofNat (n / 1099511627776), UInt8.ofNat (n / 281474976710656), UInt8.ofNat (n / 72057594037927936)]
theorem ofNat_eq (a b : Nat) (h : a % 256 = b % 256) : UInt8.ofNat a = UInt8.ofNat b := by
  apply UInt8.toNat_inj.1
  simp [h]
theorem nB_eq (n : Nat) (h : n < 18446744073709551616) : leB (BitVec.ofNat 32 n) ++ leB (BitVec.ofNat 32 (n / 4294967296)) = nB n := by
  simp only [leB, lb, nB, BitVec.toNat_ushiftRight, BitVec.toNat_ofNat, Nat.shiftRight_eq_div_pow, List.cons_append, List.nil_append]
  rw [ofNat_eq (n % 2 ^ 32) n (by omega), ofNat_eq (n % 2 ^ 32 / 2 ^ 8) (n / 256) (by omega), ofNat_eq (n % 2 ^ 32 / 2 ^ 16) (n / 65536) (by omega), ofNat_eq (n % 2 ^ 32 / 2 ^ 24) (n / 16777216) (by omega),
    ofNat_eq (n / 4294967296 % 2 ^ 32) (n / 4294967296) (by omega), ofNat_eq (n / 4294967296 % 2 ^ 32 / 2 ^ 8) (n / 1099511627776) (by omega), ofNat_eq (n / 4294967296 % 2 ^ 32 / 2 ^ 16) (n / 281474976710656) (by omega), ofNat_eq (n / 4294967296 % 2 ^ 32 / 2 ^ 24) (n / 72057594037927936) (by omega)]
theorem u8_nat (n : Nat) : IntKind.u8.wrap (n : Int) = ((UInt8.ofNat n).toNat : Int) := by
  simp [IntKind.wrap, IntKind.bits, IntKind.signed]
theorem fillP_eq (l : List UInt8) (h : l.length ≤ 1000000000) : fillP true l = (l ++ 128 :: List.replicate (padN l.length) 0) ++ nB (8 * l.length) := by
  rw [← nB_eq _ (by omega), ← wbytes_le, ← wbytes_le, ← List.append_assoc]
  rfl
theorem nB_take (n i : Nat) (hi : i < 8) : (nB n).take i ++ [UInt8.ofNat (n / 2 ^ (8 * i))] = (nB n).take (i + 1) := by
  rcases (by omega : i = 0 ∨ i = 1 ∨ i = 2 ∨ i = 3 ∨ i = 4 ∨ i = 5 ∨ i = 6 ∨ i = 7) with rfl | rfl | rfl | rfl | rfl | rfl | rfl | rfl <;> simp [nB]
set_option maxRecDepth 100000 in
set_option maxHeartbeats 4000000 in
theorem rfill_AF (s : ByteArray) (hs : s.size ≤ 1000000000) : AF Tryd.prog (gl0 m) 45 [.one (.v (.string s)), .one (.v (.bool true))] (.one (.sl .no 1 (byL (fillP true s.data.toList)))) := by
  refine AF_by SpOK.none mixed F45_ok ?_
  have hsz := size_data s
  have h128 : bytesD s ++ [[D.v (.int .u8 128)]] = byL (s.data.toList ++ 128 :: List.replicate 0 0) := by rw [byL_bytesD]; simp [byL]
  have hbl : (bytesD s).length = s.size := by rw [byL_bytesD, byL_length, hsz]
  simp [F45, hbl]
  rw [h128]
  refine ⟨⟨by omega, by omega⟩, ?_⟩
  rw [fillP_eq _ (by omega)]
  generalize hl : s.data.toList = l at *
  refine awp_loop (fun k S => ∃ j t, j + k = padN l.length ∧ S.env 0 = some (.one (.v (.string s))) ∧ S.env 1 = some (.one (.v (.bool true))) ∧ S.env 5 = some (.one (.sl (.tk t) 1 (byL (l ++ 128 :: List.replicate j 0)))) ∧ S.va 0 ∧ S.va 1 ∧ S.va 5 ∧ S.tk t = some (5, 1)) ⟨padN l.length, 0, 4, ?_⟩ ?_
  · simp
    trace_state
  rintro k S ⟨j, t, hjk, e0, e1, e5, v0, v1, v5, ht⟩
  have hcl : (l ++ 128 :: List.replicate j 0).length = l.length + 1 + j := by simp; omega
  have hpl : (byL (l ++ 128 :: List.replicate j 0)).length = l.length + 1 + j := by rw [byL_length, hcl]
  have hnext : byL (l ++ 128 :: List.replicate j 0) ++ [[D.v (.int .u8 0)]] = byL (l ++ 128 :: List.replicate (j + 1) 0) := by
    rw [List.replicate_succ']
    simp [byL]
  have hmod : ((l.length : Int) + 1 + (j : Int)).tmod 64 = (((l.length + 1 + j) % 64 : Nat) : Int) := by
    rw [Int.tmod_eq_emod_of_nonneg (by omega)]; omega
  have hpad : padN l.length < 64 := by unfold padN; omega
  have q1 : IntKind.u64.wrap (s.size : Int) = (s.size : Int) := by simp [IntKind.wrap, IntKind.bits, IntKind.signed]; omega
  have q2 : IntKind.u64.wrap ((s.size : Int) * 8) = ((8 * l.length : Nat) : Int) := by simp [IntKind.wrap, IntKind.bits, IntKind.signed]; omega
  by_cases hj : j < padN l.length
  · have h56 : ¬ (((l.length + 1 + j) % 64 : Nat) : Int) = 56 := by unfold padN at hj; omega
    generalize byL (l ++ 128 :: List.replicate j 0) = xs at *
    generalize ((l.length + 1 + j) % 64) = r at *
    have h56' : ¬ (r : Int) = 56 := by omega
    simp [e0, e1, e5, v0, v1, v5, ht, hpl, hmod, h56']
    refine ⟨by omega, k - 1, by omega, j + 1, by omega, S.nx + 4 + 2, ⟨rfl, hnext⟩, fun h => absurd rfl h⟩
  · have hje : j = padN l.length := by omega
    subst hje
    have h56 : ((l.length + 1 + padN l.length) % 64) = 56 := by unfold padN; omega
    rw [h56] at hmod
    have hmod' : ((l.length : Int) + 1 + (padN l.length : Int)).tmod 64 = 56 := hmod
    generalize 8 * l.length = L8 at *
    generalize hcur : l ++ 128 :: List.replicate (padN l.length) 0 = cur at *
    simp [e0, e1, e5, v0, v1, v5, ht, hpl, hmod', q1, q2]
    refine awp_loop (fun k S => ∃ i t, i + k = 8 ∧ S.env 1 = some (.one (.v (.bool true))) ∧ S.env 5 = some (.one (.sl (.tk t) 1 (byL (cur ++ (nB L8).take i)))) ∧ S.env 6 = some (.one (.v (.int .u64 (L8 : Nat)))) ∧ S.env 7 = some (.one (.v (.int .i64 (i : Nat)))) ∧ (S.va 1 ∧ S.va 5 ∧ S.va 6 ∧ S.va 7) ∧ S.tk t = some (5, 1)) ⟨8, 0, t, ?_⟩ ?_
    · simp [e1, e5, v1, v5, ht]
    clear e0 e1 e5 v0 v1 v5
    rintro k S ⟨i, t, hik, e1, e5, e6, e7, ⟨v1, v5, v6, v7⟩, ht⟩
    have hll : (byL (cur ++ (nB L8).take i)).length ≤ 1000000100 := by rw [byL_length, List.length_append, hcl, List.length_take]; omega
    by_cases hi : i < 8
    · have hi' : (i : Int) < 8 := by omega
      have w7 : IntKind.i64.wrap ((i : Int) + 1) = ((i + 1 : Nat) : Int) := by rw [wrap_small _ (by omega) (by omega)]; omega
      have w8 : IntKind.i64.wrap (8 * (i : Int)) = ((8 * i : Nat) : Int) := by rw [wrap_small _ (by omega) (by omega)]; omega
      have hmin : min (8 * i) 64 = 8 * i := by omega
      have hu : ((UInt8.ofNat (L8 / 2 ^ (8 * i))).toNat : Int) = (L8 : Int) / 2 ^ (8 * i) % 256 := by
        have : (UInt8.ofNat (L8 / 2 ^ (8 * i))).toNat = L8 / 2 ^ (8 * i) % 256 := by simp
        rw [this]; push_cast; rfl
      have hnx : byL (cur ++ (nB L8).take i) ++ [[D.v (.int .u8 ((L8 : Int) / 2 ^ (8 * i) % 256))]] = byL (cur ++ (nB L8).take (i + 1)) := by
        rw [← nB_take _ _ hi, ← List.append_assoc, ← hu]; simp [byL]
      generalize byL (cur ++ (nB L8).take i) = xs at *
      simp [e1, e5, e6, e7, v1, v5, v6, v7, ht, hi', w7, w8, IntKind.bits, hmin, -Int.natCast_mul]
      exact ⟨by omega, k - 1, by omega, i + 1, by omega, _, ⟨rfl, hnx⟩, by omega, fun h => absurd rfl h⟩
    · have hie : i = 8 := by omega
      subst hie
      simp [e1, e5, e6, e7, v1, v5, v6, v7, ht]
      rfl
/-! ### bytes out of words -/
def RowIs (S : St) (l : List UInt8) : Prop := (l = [] ∧ S.env 5 = some (.one (.sl .full 1 []))) ∨ (l ≠ [] ∧ ∃ t, S.env 5 = some (.one (.sl (.tk t) 1 (byL l))) ∧ S.tk t = some (5, 1))
theorem RowIs.congr {S S' : St} {l : List UInt8} (h : RowIs S l) (h1 : S'.env 5 = S.env 5) (h2 : S'.tk = S.tk) : RowIs S' l := by
  unfold RowIs at *; rw [h1, h2]; exact h
theorem RowIs.new {S : St} {l : List UInt8} {t : Nat} (h1 : S.env 5 = some (.one (.sl (.tk t) 1 (byL l)))) (h2 : S.tk t = some (5, 1)) (h3 : l ≠ []) : RowIs S l := .inr ⟨h3, t, h1, h2⟩
def wL (ws : List W) : List (List D) := ws.map fun x => [wD x]
theorem lb_shift (w : W) (k : Nat) : ((lb (w >>> k)).toNat : Int) = wi w / 2 ^ k % 256 := by
  have : (lb (w >>> k)).toNat = w.toNat / 2 ^ k % 256 := by
    unfold lb
    rw [UInt8.toNat_ofNat', BitVec.toNat_ushiftRight, Nat.shiftRight_eq_div_pow]
  rw [this]; unfold wi; rw [Int.natCast_emod, Int.natCast_ediv, Int.natCast_pow]; rfl
theorem leB_take (w : W) (i : Nat) (hi : i < 4) : (leB w).take i ++ [lb (w >>> (8 * i))] = (leB w).take (i + 1) := by
  rcases (by omega : i = 0 ∨ i = 1 ∨ i = 2 ∨ i = 3) with rfl | rfl | rfl | rfl
  · rw [Nat.mul_zero, BitVec.ushiftRight_zero]; rfl
  · rfl
  · rfl
  · rfl
set_option maxRecDepth 100000 in
set_option maxHeartbeats 4000000 in
theorem rbytes_AF (ws : List W) (h0 : ws ≠ []) (hw : ws.length ≤ 1000) : AF Tryd.prog (gl0 m) 49 [.one (.sl .full 1 (wL ws)), .one (.v (.bool true))] (.one (.v (.string ⟨(ws.flatMap leB).toArray⟩))) := by
  refine AF_by SpOK.none mixed F49_ok ?_
  simp [F49]
  have hlen : (wL ws).length = ws.length := by simp [wL]
  have hget : ∀ (i : Nat) (a : W), ws[i]? = some a → (wL ws)[i]? = some [wD a] := fun i a h => by rw [wL, List.getElem?_map, h]; rfl
  generalize wL ws = xs at *
  refine awp_loop (fun k S => ∃ i, i + k = ws.length ∧ S.env 0 = some (.one (.sl .full 1 xs)) ∧ S.env 1 = some (.one (.v (.bool true))) ∧ S.env 6 = some (.one (.v (.int .i64 (i : Nat)))) ∧ (S.va 0 ∧ S.va 1 ∧ S.va 5 ∧ S.va 6) ∧ RowIs S ((ws.take i).flatMap leB)) ⟨ws.length, 0, ?_⟩ ?_
  · simp [RowIs]
  rintro k S ⟨i, hik, e0, e1, e6, ⟨v0, v1, v5, v6⟩, hr⟩
  have htake : ((ws.take i).flatMap leB).length = 4 * (ws.take i).length := by
    generalize ws.take i = l
    induction l with
    | nil => rfl
    | cons a l ih => simp [List.flatMap_cons, leB] at ih ⊢; omega
  by_cases hi : i < ws.length
  · have hgi := hget i ws[i] (List.getElem?_eq_getElem hi)
    have hts := List.take_succ_eq_append_getElem hi
    generalize ws[i] = w at *
    have hi' : i < xs.length := by omega
    have hgi' := (List.getElem?_eq_some_iff.1 hgi).2
    have hA : ((ws.take (i + 1)).flatMap leB) = (ws.take i).flatMap leB ++ leB w := by rw [hts]; simp
    have hAl : ((ws.take i).flatMap leB).length ≤ 4000 := by rw [htake, List.length_take]; omega
    generalize (ws.take i).flatMap leB = A at *
    have w7 : IntKind.i64.wrap ((i : Int) + 1) = ((i + 1 : Nat) : Int) := by rw [wrap_small _ (by omega) (by omega)]; omega
    simp [e0, e1, e6, v0, v1, v5, v6, hi, hlen]
    refine awp_loop (fun k' S' => ∃ j, j + k' = 4 ∧ S'.env 0 = some (.one (.sl .full 1 xs)) ∧ S'.env 1 = some (.one (.v (.bool true))) ∧ S'.env 6 = some (.one (.v (.int .i64 (i : Nat)))) ∧ S'.env 7 = some (.one (.v (.int .i64 (j : Nat)))) ∧ (S'.va 0 ∧ S'.va 1 ∧ S'.va 5 ∧ S'.va 6 ∧ S'.va 7) ∧ RowIs S' (A ++ (leB w).take j)) ⟨4, 0, ?_⟩ ?_
    · simp [e0, e1, e6, v0, v1, v5, v6]
      exact hr.congr rfl rfl
    clear e0 e1 e6 v0 v1 v5 v6 hr
    rintro k' S' ⟨j, hjk, e0, e1, e6, e7, ⟨v0, v1, v5, v6, v7⟩, hr⟩
    by_cases hj : j < 4
    · have hj' : (j : Int) < 4 := by omega
      have x7 : IntKind.i64.wrap ((j : Int) + 1) = ((j + 1 : Nat) : Int) := by rw [wrap_small _ (by omega) (by omega)]; omega
      have x8 : IntKind.i64.wrap (8 * (j : Int)) = ((8 * j : Nat) : Int) := by rw [wrap_small _ (by omega) (by omega)]; omega
      have hmin : min (8 * j) 32 = 8 * j := by omega
      have hnx : A ++ (leB w).take j ++ [lb (w >>> (8 * j))] = A ++ (leB w).take (j + 1) := by rw [List.append_assoc, leB_take w j hj]
      have hby : ∀ l : List UInt8, byL l ++ [[D.v (.int .u8 (wi w / 2 ^ (8 * j) % 256))]] = byL (l ++ [lb (w >>> (8 * j))]) := fun l => by rw [← lb_shift]; simp [byL]
      have hall : (A ++ (leB w).take j).length ≤ 4004 := by rw [List.length_append, List.length_take]; omega
      generalize A ++ (leB w).take j = B at *
      rcases hr with ⟨rfl, e5⟩ | ⟨hne, t, e5, ht⟩
      · simp [e0, e1, e5, e6, e7, v0, v1, v5, v6, v7, hj', hi, hi', hlen, hgi, hgi', x7, x8, IntKind.bits, hmin, wD, wV, -Int.natCast_mul]
        refine ⟨k' - 1, by omega, j + 1, by omega, by omega, ?_⟩
        rw [← hnx]
        exact RowIs.new (l := [] ++ [lb (w >>> (8 * j))]) (by rw [← hby]; rfl) (by simp) (by simp)
      · have hbl := byL_length B
        have hby' := hby B
        generalize byL B = bs at *
        simp [e0, e1, e5, e6, e7, ht, v0, v1, v5, v6, v7, hj', hi, hi', hlen, hgi, hgi', x7, x8, IntKind.bits, hmin, wD, wV, -Int.natCast_mul]
        refine ⟨by omega, k' - 1, by omega, j + 1, by omega, by omega, ?_⟩
        rw [← hnx]
        exact RowIs.new (l := B ++ [lb (w >>> (8 * j))]) (by rw [← hby']; rfl) (by simp) (by simp)
    · have hje : j = 4 := by omega
      subst hje
      simp [e0, e1, e6, e7, v0, v1, v5, v6, v7, w7]
      refine ⟨k - 1, by omega, i + 1, by omega, by omega, ?_⟩
      rw [hA]
      exact RowIs.congr hr rfl rfl
  · have hie : i = ws.length := by omega
    subst hie
    rw [List.take_length] at hr
    rcases hr with ⟨h1, _⟩ | ⟨_, t, e5, ht⟩
    · exfalso
      match ws, h0 with
      | w :: r, _ => simp [leB] at h1
    · simp [e0, e1, e5, e6, ht, v0, v1, v5, v6, hlen, strOf_byL]
      exact byL_isByte _
end Go.Proofs.YtbhingdlclfipaaDoor.Ab
