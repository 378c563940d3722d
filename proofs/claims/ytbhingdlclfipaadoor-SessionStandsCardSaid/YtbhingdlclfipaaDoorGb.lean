/- The layer digest: words of 32 bits; word, mix, RotateLeft32, turns, ReverseBytes32, appended, sines. -/
import Derived.Test.YtbhingdlclfipaaDoorGa
import Derived.Laws.BitsAllLaws
namespace Go.Proofs.YtbhingdlclfipaaDoor.Ab
open Go Go.RowKit Go.Proofs
set_option linter.unusedVariables false
set_option linter.unusedSimpArgs false
variable (m : Int)
abbrev W := BitVec 32
/-- A word's number. -/
def wi (x : W) : Int := (x.toNat : Int)
def iw (n : Int) : W := BitVec.ofInt 32 n
theorem iw_wi (x : W) : iw (wi x) = x := by simp [iw, wi]
def wV (x : W) : Value := .int .u32 (wi x)
def wA (x : W) : A := .one (.v (wV x))
theorem w_lt (x : W) : x.toNat < 4294967296 := x.isLt
theorem wi_pos (x : W) : 0 ≤ wi x ∧ wi x < 4294967296 := by have := w_lt x; unfold wi; omega
theorem w_and (x y : W) : Go.bits .and .u32 (wi x) (wi y) = wi (x &&& y) := by unfold wi; rw [Go.u32_and_nat _ _ (w_lt x) (w_lt y), BitVec.toNat_and]
theorem w_or (x y : W) : Go.bits .or .u32 (wi x) (wi y) = wi (x ||| y) := by unfold wi; rw [Go.u32_or_nat _ _ (w_lt x) (w_lt y), BitVec.toNat_or]
theorem w_xor (x y : W) : Go.bits .xor .u32 (wi x) (wi y) = wi (x ^^^ y) := by unfold wi; rw [Go.u32_xor_nat _ _ (w_lt x) (w_lt y), BitVec.toNat_xor]
theorem w_ones : (4294967295 : Int) = wi (BitVec.allOnes 32) := by decide
theorem w_not (x : W) : Go.bits .xor .u32 4294967295 (wi x) = wi (~~~ x) := by rw [w_ones, w_xor, BitVec.allOnes_xor]
theorem w_add (x y : W) : IntKind.u32.wrap (wi x + wi y) = wi (x + y) := by
  unfold wi; rw [IntKind.wrap_u32', BitVec.toNat_add]; omega
theorem w_shl (x : W) (k : Nat) : IntKind.u32.wrap (wi x * 2 ^ k) = wi (x <<< k) := by
  unfold wi
  rw [IntKind.wrap_u32', BitVec.toNat_shiftLeft, Nat.shiftLeft_eq, Int.natCast_emod, Int.natCast_mul, Int.natCast_pow]
  rfl
theorem w_shr (x : W) (k : Nat) : wi x / 2 ^ k = wi (x >>> k) := by
  unfold wi
  rw [BitVec.toNat_ushiftRight, Nat.shiftRight_eq_div_pow, Int.natCast_ediv, Int.natCast_pow]
  rfl
theorem w_shl8 (x : W) : IntKind.u32.wrap (wi x * (256 : Int)) = wi (x <<< 8) := w_shl x 8
theorem w_shl16 (x : W) : IntKind.u32.wrap (wi x * (65536 : Int)) = wi (x <<< 16) := w_shl x 16
theorem w_shl24 (x : W) : IntKind.u32.wrap (wi x * (16777216 : Int)) = wi (x <<< 24) := w_shl x 24
theorem w_shr8 (x : W) : wi x / (256 : Int) = wi (x >>> 8) := w_shr x 8
theorem w_shr16 (x : W) : wi x / (65536 : Int) = wi (x >>> 16) := w_shr x 16
theorem w_shr24 (x : W) : wi x / (16777216 : Int) = wi (x >>> 24) := w_shr x 24
/-- The least byte. -/
def lb (x : W) : UInt8 := UInt8.ofNat x.toNat
theorem w_byte (x : W) : IntKind.u8.wrap (wi x) = ((lb x).toNat : Int) := by
  unfold wi lb
  rw [IntKind.wrap_u8']
  simp
/-- A byte's word. -/
def bw (b : UInt8) : W := BitVec.ofNat 32 b.toNat
theorem bw_nat (b : UInt8) : (bw b).toNat = b.toNat := by
  have := b.toNat_lt
  simp only [bw, BitVec.toNat_ofNat]; omega
theorem bw_wrap (b : UInt8) : IntKind.u32.wrap (b.toNat : Int) = wi (bw b) := by
  have := b.toNat_lt
  unfold wi
  rw [bw_nat, IntKind.wrap_u32']; omega
def byL (l : List UInt8) : List (List D) := l.map fun b => [.v (.int .u8 (b.toNat : Int))]
def w4 (a b c d : UInt8) : W := ((bw a <<< 24 ||| bw b <<< 16) ||| bw c <<< 8) ||| bw d
def revP (x : W) : W :=
  let y := (x >>> 8 &&& 16711935#32) ||| ((x &&& 16711935#32) <<< 8)
  y >>> 16 ||| y <<< 16
theorem w_mask : (16711935 : Int) = wi 16711935#32 := by decide
theorem rev_AF (x : W) : AF Tryd.prog (gl0 m) 78 [wA x] (wA (revP x)) := by
  refine AF_by SpOK.none mixed F78_ok ?_
  simp [F78, wA, wV, IntKind.bits, revP]
  simp only [w_mask, w_shl8, w_shl16, w_shr8, w_shr16, w_and, w_or]
def revS : List A → Option (Prop × A)
  | [.one (.v (.int .u32 x))] => some (x = wi (iw x), wA (revP (iw x)))
  | _ => none
theorem revS_ok : ∀ l p r, revS l = some (p, r) → p → AF Tryd.prog (gl0 m) 78 l r := by
  intro l p r h hp
  unfold revS at h
  split at h
  · rename_i x
    simp only [Option.some.injEq, Prod.mk.injEq] at h; obtain ⟨rfl, rfl⟩ := h
    have := rev_AF m (iw x)
    unfold wA wV at this ⊢
    rw [← hp] at this
    exact this
  · cases h
def wordP (least : Bool) (a b c d : UInt8) : W := if least then revP (w4 a b c d) else w4 a b c d
theorem word_AF (a b c d : UInt8) (r : List UInt8) (least : Bool) : AF Tryd.prog (gl0 m) 74 [.one (.sl .no 1 (byL (a :: b :: c :: d :: r))), .one (.v (.bool least))] (wA (wordP least a b c d)) := by
  refine AF_by (SpOK.cons (revS_ok m) SpOK.none) mixed F74_ok ?_
  have c1 : (1 : Int) < (r.length : Int) + 1 + 1 + 1 + 1 := by omega
  have c2 : (2 : Int) < (r.length : Int) + 1 + 1 + 1 + 1 := by omega
  have c3 : (3 : Int) < (r.length : Int) + 1 + 1 + 1 + 1 := by omega
  have c0 : (0 : Int) < (r.length : Int) + 1 + 1 + 1 + 1 := by omega
  cases least <;> simp [F74, byL, wA, wV, IntKind.bits, bw_wrap, w_shl8, w_shl16, w_shl24, w_or, revS, iw_wi, wordP, w4, c0, c1, c2, c3]
/-! ### mix -/
def mixP (b c d : W) (i : Nat) : W × Nat :=
  if i < 16 then (d ^^^ (b &&& (c ^^^ d)), i) else if i < 32 then (c ^^^ (d &&& (b ^^^ c)), (5 * i + 1) % 16) else if i < 48 then ((b ^^^ c) ^^^ d, (3 * i + 5) % 16) else (c ^^^ (b ||| ~~~ d), 7 * i % 16)
theorem and15 (n : Nat) (h : n < 1000) : Go.bits .and .i64 (n : Int) 15 = ((n % 16 : Nat) : Int) := by
  have : ((List.range 1000).all fun n => decide (Go.bits .and .i64 (n : Int) 15 = ((n % 16 : Nat) : Int))) = true := by kernel_rfl
  exact of_decide_eq_true (List.all_eq_true.1 this n (List.mem_range.2 h))
theorem mix_AF (b c d : W) (i : Nat) (hi : i < 64) : AF Tryd.prog (gl0 m) 75 [wA b, wA c, wA d, .one (.v (.int .i64 i))] (.tup [wA (mixP b c d i).1, .one (.v (.int .i64 (mixP b c d i).2))]) := by
  refine AF_by SpOK.none mixed F75_ok ?_
  have e5 : IntKind.i64.wrap (5 * (i : Int)) = ((5 * i : Nat) : Int) := by rw [wrap_small _ (by omega) (by omega)]; omega
  have e6 : IntKind.i64.wrap (((5 * i : Nat) : Int) + 1) = ((5 * i + 1 : Nat) : Int) := by rw [wrap_small _ (by omega) (by omega)]; omega
  have e7 := and15 (5 * i + 1) (by omega)
  have f5 : IntKind.i64.wrap (3 * (i : Int)) = ((3 * i : Nat) : Int) := by rw [wrap_small _ (by omega) (by omega)]; omega
  have f6 : IntKind.i64.wrap (((3 * i : Nat) : Int) + 5) = ((3 * i + 5 : Nat) : Int) := by rw [wrap_small _ (by omega) (by omega)]; omega
  have f7 := and15 (3 * i + 5) (by omega)
  have g5 : IntKind.i64.wrap (7 * (i : Int)) = ((7 * i : Nat) : Int) := by rw [wrap_small _ (by omega) (by omega)]; omega
  have g7 := and15 (7 * i) (by omega)
  by_cases h1 : i < 16
  · have h1' : (i : Int) < 16 := by omega
    simp [F75, wA, wV, h1', mixP, h1, w_xor, w_and]
  · have h1' : ¬ (i : Int) < 16 := by omega
    by_cases h2 : i < 32
    · have h2' : (i : Int) < 32 := by omega
      simp [F75, wA, wV, h1', h2', mixP, h1, h2, w_xor, w_and, -Int.natCast_mul, -Int.natCast_add, e5, e6, e7]
    · have h2' : ¬ (i : Int) < 32 := by omega
      by_cases h3 : i < 48
      · have h3' : (i : Int) < 48 := by omega
        simp [F75, wA, wV, h1', h2', h3', mixP, h1, h2, h3, w_xor, w_and, -Int.natCast_mul, -Int.natCast_add, f5, f6, f7]
      · have h3' : ¬ (i : Int) < 48 := by omega
        simp [F75, wA, wV, h1', h2', h3', mixP, h1, h2, h3, w_xor, w_and, w_or, w_not, IntKind.signed, IntKind.max, IntKind.bits, -Int.natCast_mul, -Int.natCast_add, g5, g7]
/-! ### RotateLeft32 -/
def rotP (x : W) (k : Nat) : W := (x <<< (k % 32)) ||| (x >>> (32 - k % 32))
theorem rot_AF (x : W) (k : Nat) (hk : k < 32) : AF Tryd.prog (gl0 m) 76 [wA x, .one (.v (.int .i64 k))] (wA (rotP x k)) := by
  refine AF_by SpOK.none mixed F76_ok ?_
  have e1 : IntKind.u64.wrap (k : Int) = (k : Int) := by
    simp [IntKind.wrap, IntKind.bits, IntKind.signed]; omega
  have e2 : Go.bits .and .u64 (k : Int) 31 = (k : Int) := by
    have : ((List.range 32).all fun n => decide (Go.bits .and .u64 (n : Int) 31 = (n : Int))) = true := by kernel_rfl
    exact of_decide_eq_true (List.all_eq_true.1 this k (List.mem_range.2 hk))
  have e3 : IntKind.u64.wrap (32 - (k : Int)) = ((32 - k : Nat) : Int) := by
    simp [IntKind.wrap, IntKind.bits, IntKind.signed]; omega
  have e4 : min k 32 = k := by omega
  have e5 : min (32 - k) 32 = 32 - k := by omega
  have e6 : k % 32 = k := by omega
  simp [F76, wA, wV, IntKind.bits, e1, e2, e3, e4, e5, w_shl, w_shr, w_or, rotP, e6]
/-! ### turns -/
def turnsP (i : Nat) : Nat := ([7, 12, 17, 22, 5, 9, 14, 20, 4, 11, 16, 23, 6, 10, 15, 21] : List Nat).getD (i / 16 * 4 + i % 4) 0
theorem turnsP_lt (i : Nat) : turnsP i < 32 := by
  unfold turnsP
  by_cases h : i / 16 * 4 + i % 4 < 16
  · generalize i / 16 * 4 + i % 4 = j at *
    have : ((List.range 16).all fun n => decide (([7, 12, 17, 22, 5, 9, 14, 20, 4, 11, 16, 23, 6, 10, 15, 21] : List Nat).getD n 0 < 32)) = true := by decide
    exact of_decide_eq_true (List.all_eq_true.1 this j (List.mem_range.2 h))
  · rw [List.getD_eq_getElem?_getD, List.getElem?_eq_none (by simp; omega)]; decide
theorem turns_AF (i : Nat) (hi : i < 64) : AF Tryd.prog (gl0 m) 77 [.one (.v (.int .i64 i))] (.one (.v (.int .i64 (turnsP i)))) := by
  refine AF_by SpOK.none mixed F77_ok ?_
  have e1 : IntKind.i64.wrap ((i : Int) / 16) = ((i / 16 : Nat) : Int) := by
    rw [wrap_small _ (by omega) (by omega)]; omega
  have e2 : (i : Int).tmod 4 = ((i % 4 : Nat) : Int) := by rw [Int.tmod_eq_emod_of_nonneg (by omega)]; omega
  have hq : i / 16 < 4 := by omega
  have hr : i % 4 < 4 := by omega
  unfold turnsP
  generalize i / 16 = q at *
  generalize i % 4 = r at *
  have hq' : q = 0 ∨ q = 1 ∨ q = 2 ∨ q = 3 := by omega
  have hr' : r = 0 ∨ r = 1 ∨ r = 2 ∨ r = 3 := by omega
  rcases hq' with rfl | rfl | rfl | rfl <;> rcases hr' with rfl | rfl | rfl | rfl <;> simp [F77, e1, e2] <;> decide
end Go.Proofs.YtbhingdlclfipaaDoor.Ab
