/- The layer session, part 16: the document's md5: bits and words. -/
import Derived.Test.YtbhingdlclfipaaDoorGe
namespace Go.Proofs.YtbhingdlclfipaaDoor.Ab
open Go Go.RowKit Go.Proofs
set_option linter.unusedVariables false
set_option linter.unusedSimpArgs false
variable {m : Int}
/-! ### bits -/
theorem bw_high (b : UInt8) (i : Nat) (h : 8 ≤ i) : (bw b).getLsbD i = false := by
  have hb := b.toNat_lt
  have h2 : b.toNat < 2 ^ i := Nat.lt_of_lt_of_le hb (Nat.pow_le_pow_right (by decide) h)
  simp [bw, BitVec.getLsbD_ofNat, Nat.testBit_lt_two_pow h2]
theorem rev_bit (x : W) (i : Nat) (h : i < 32) : (revP x).getLsbD i = x.getLsbD ((3 - i / 8) * 8 + i % 8) := by
  rcases (by omega : i = 0 ∨ i = 1 ∨ i = 2 ∨ i = 3 ∨ i = 4 ∨ i = 5 ∨ i = 6 ∨ i = 7 ∨ i = 8 ∨ i = 9 ∨ i = 10 ∨ i = 11 ∨ i = 12 ∨ i = 13 ∨ i = 14 ∨ i = 15 ∨ i = 16 ∨ i = 17 ∨ i = 18 ∨ i = 19 ∨ i = 20 ∨ i = 21 ∨ i = 22 ∨ i = 23 ∨ i = 24 ∨ i = 25 ∨ i = 26 ∨ i = 27 ∨ i = 28 ∨ i = 29 ∨ i = 30 ∨ i = 31) with rfl | rfl | rfl | rfl | rfl | rfl | rfl | rfl | rfl | rfl | rfl | rfl | rfl | rfl | rfl | rfl | rfl | rfl | rfl | rfl | rfl | rfl | rfl | rfl | rfl | rfl | rfl | rfl | rfl | rfl | rfl | rfl
  all_goals simp [revP, BitVec.getLsbD_or, BitVec.getLsbD_and, BitVec.getLsbD_shiftLeft, BitVec.getLsbD_ushiftRight]
theorem lb_eq (x y : W) (h : ∀ i, i < 8 → x.getLsbD i = y.getLsbD i) : lb x = lb y := by
  unfold lb
  apply UInt8.toBitVec_inj.1
  apply BitVec.eq_of_getLsbD_eq
  intro i hi
  have := h i hi
  simp only [UInt8.ofNat, BitVec.getLsbD_ofNat, hi, decide_true, Bool.true_and]
  exact this
theorem bool_a (b c d : Bool) : (d ^^ b && (c ^^ d)) = (b && c || !b && d) := by cases b <;> cases c <;> cases d <;> rfl
theorem bool_b (b c d : Bool) : (c ^^ d && (b ^^ c)) = (d && b || !d && c) := by cases b <;> cases c <;> cases d <;> rfl
theorem mix_a (b c d : W) : d ^^^ (b &&& (c ^^^ d)) = (b &&& c) ||| (~~~ b &&& d) := by
  apply BitVec.eq_of_getLsbD_eq
  intro i hi
  simp [hi]
  exact bool_a _ _ _
theorem mix_b (b c d : W) : c ^^^ (d &&& (b ^^^ c)) = (d &&& b) ||| (~~~ d &&& c) := by
  apply BitVec.eq_of_getLsbD_eq
  intro i hi
  simp [hi]
  exact bool_b _ _ _
/-- The word of 4 bytes, the least first. -/
def le4 (a b c d : UInt8) : W := ((bw a ||| bw b <<< 8) ||| bw c <<< 16) ||| bw d <<< 24
theorem le4_rev (a b c d : UInt8) : le4 a b c d = revP (w4 a b c d) := by
  apply BitVec.eq_of_getLsbD_eq
  intro i hi
  rw [rev_bit _ _ hi]
  have ha : ∀ i (h : i < 32), 8 ≤ i → (bw a)[i]'h = false := fun i h h8 => by rw [← BitVec.getLsbD_eq_getElem]; exact bw_high a i h8
  have hb : ∀ i (h : i < 32), 8 ≤ i → (bw b)[i]'h = false := fun i h h8 => by rw [← BitVec.getLsbD_eq_getElem]; exact bw_high b i h8
  have hc : ∀ i (h : i < 32), 8 ≤ i → (bw c)[i]'h = false := fun i h h8 => by rw [← BitVec.getLsbD_eq_getElem]; exact bw_high c i h8
  have hd : ∀ i (h : i < 32), 8 ≤ i → (bw d)[i]'h = false := fun i h h8 => by rw [← BitVec.getLsbD_eq_getElem]; exact bw_high d i h8
  unfold le4 w4
  generalize bw a = A at *
  generalize bw b = B at *
  generalize bw c = C at *
  generalize bw d = E at *
  rcases (by omega : i = 0 ∨ i = 1 ∨ i = 2 ∨ i = 3 ∨ i = 4 ∨ i = 5 ∨ i = 6 ∨ i = 7 ∨ i = 8 ∨ i = 9 ∨ i = 10 ∨ i = 11 ∨ i = 12 ∨ i = 13 ∨ i = 14 ∨ i = 15 ∨ i = 16 ∨ i = 17 ∨ i = 18 ∨ i = 19 ∨ i = 20 ∨ i = 21 ∨ i = 22 ∨ i = 23 ∨ i = 24 ∨ i = 25 ∨ i = 26 ∨ i = 27 ∨ i = 28 ∨ i = 29 ∨ i = 30 ∨ i = 31) with rfl | rfl | rfl | rfl | rfl | rfl | rfl | rfl | rfl | rfl | rfl | rfl | rfl | rfl | rfl | rfl | rfl | rfl | rfl | rfl | rfl | rfl | rfl | rfl | rfl | rfl | rfl | rfl | rfl | rfl | rfl | rfl
  all_goals simp [BitVec.getLsbD_or, BitVec.getLsbD_shiftLeft, ha, hb, hc, hd]
theorem lb_rev (w : W) : [lb (revP w >>> 24), lb (revP w >>> 16), lb (revP w >>> 8), lb (revP w)] = [lb w, lb (w >>> 8), lb (w >>> 16), lb (w >>> 24)] := by
  have e : ∀ (k j : Nat), k < 4 → j = 8 * k → ∀ i, i < 8 → (revP w >>> (24 - j)).getLsbD i = (w >>> j).getLsbD i := by
    intro k j hk hj i hi
    subst hj
    rw [BitVec.getLsbD_ushiftRight, BitVec.getLsbD_ushiftRight, rev_bit _ _ (by omega)]
    congr 1
    omega
  have e0 := lb_eq _ _ (e 0 0 (by decide) rfl)
  have e1 := lb_eq _ _ (e 1 8 (by decide) rfl)
  have e2 := lb_eq _ _ (e 2 16 (by decide) rfl)
  have e3 := lb_eq _ _ (e 3 24 (by decide) rfl)
  simp at e0 e1 e2 e3
  rw [e0, e1, e2, e3]
def leB (w : W) : List UInt8 := [lb w, lb (w >>> 8), lb (w >>> 16), lb (w >>> 24)]
theorem wbytes_le (w : W) : wbytes true w = leB w := lb_rev w
/-! ### the small functions -/
set_option maxRecDepth 100000 in
set_option maxHeartbeats 4000000 in
theorem table_AF : AF Tryd.prog (gl0 m) 44 [] (.one (.sl .no 1 (sineL.map fun x => [wD x]))) := by
  refine AF_by SpOK.none mixed F44_ok ?_
  simp [F44]
  rfl
theorem rword_AF (a b c d : UInt8) : AF Tryd.prog (gl0 m) 46 [.one (.sl .no 1 (byL [a, b, c, d])), .one (.v (.bool true))] (wA (le4 a b c d)) := by
  refine AF_by SpOK.none mixed F46_ok ?_
  simp [F46, byL, wA, wV, IntKind.bits, bw_wrap, w_shl8, w_shl16, w_shl24, w_or, le4]
theorem rturn_AF (x : W) (k : Nat) (hk : k < 32) : AF Tryd.prog (gl0 m) 47 [wA x, .one (.v (.int .i64 k))] (wA (rotP x k)) := by
  refine AF_by SpOK.none mixed F47_ok ?_
  have e3 : IntKind.i64.wrap (32 - (k : Int)) = ((32 - k : Nat) : Int) := by rw [wrap_small _ (by omega) (by omega)]; omega
  have e4 : min k 32 = k := by omega
  have e5 : min (32 - k) 32 = 32 - k := by omega
  have e6 : k % 32 = k := by omega
  simp [F47, wA, wV, IntKind.bits, e3, e4, e5, w_shl, w_shr, w_or, rotP, e6]
theorem rturns_AF (i : Nat) (hi : i < 64) : AF Tryd.prog (gl0 m) 48 [.one (.v (.int .i64 i))] (.one (.v (.int .i64 (turnsP i)))) := by
  refine AF_by SpOK.none mixed F48_ok ?_
  have e1 : (i : Int) / 16 = ((i / 16 : Nat) : Int) := by omega
  have e2 : (i : Int).tmod 4 = ((i % 4 : Nat) : Int) := by rw [Int.tmod_eq_emod_of_nonneg (by omega)]; omega
  have e1' : (i : Int).tdiv 16 = ((i / 16 : Nat) : Int) := by rw [Int.tdiv_eq_ediv_of_nonneg (by omega)]; omega
  have hq : i / 16 < 4 := by omega
  have hr : i % 4 < 4 := by omega
  unfold turnsP
  generalize i / 16 = q at *
  generalize i % 4 = r at *
  have hq' : q = 0 ∨ q = 1 ∨ q = 2 ∨ q = 3 := by omega
  have hr' : r = 0 ∨ r = 1 ∨ r = 2 ∨ r = 3 := by omega
  rcases hq' with rfl | rfl | rfl | rfl <;> rcases hr' with rfl | rfl | rfl | rfl
  all_goals simp [F48, e1, e1', e2, IntKind.wrap, IntKind.bits, IntKind.signed]
end Go.Proofs.YtbhingdlclfipaaDoor.Ab
