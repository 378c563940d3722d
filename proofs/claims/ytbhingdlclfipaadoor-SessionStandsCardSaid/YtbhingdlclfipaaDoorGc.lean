/- The layer digest: sines, appended, filled. -/
import Derived.Test.YtbhingdlclfipaaDoorGb
namespace Go.Proofs.YtbhingdlclfipaaDoor.Ab
open Go Go.RowKit Go.Proofs
set_option linter.unusedVariables false
set_option linter.unusedSimpArgs false
variable (m : Int)
def sineL : List W := [3614090360#32, 3905402710#32, 606105819#32, 3250441966#32, 4118548399#32, 1200080426#32, 2821735955#32, 4249261313#32, 1770035416#32, 2336552879#32, 4294925233#32, 2304563134#32, 1804603682#32, 4254626195#32, 2792965006#32, 1236535329#32, 4129170786#32, 3225465664#32, 643717713#32, 3921069994#32, 3593408605#32, 38016083#32, 3634488961#32, 3889429448#32, 568446438#32, 3275163606#32, 4107603335#32, 1163531501#32, 2850285829#32, 4243563512#32, 1735328473#32, 2368359562#32, 4294588738#32, 2272392833#32, 1839030562#32, 4259657740#32, 2763975236#32, 1272893353#32, 4139469664#32, 3200236656#32, 681279174#32, 3936430074#32, 3572445317#32, 76029189#32, 3654602809#32, 3873151461#32, 530742520#32, 3299628645#32, 4096336452#32, 1126891415#32, 2878612391#32, 4237533241#32, 1700485571#32, 2399980690#32, 4293915773#32, 2240044497#32, 1873313359#32, 4264355552#32, 2734768916#32, 1309151649#32, 4149444226#32, 3174756917#32, 718787259#32, 3951481745#32]
def wD (x : W) : D := .v (wV x)
set_option maxRecDepth 100000 in
set_option maxHeartbeats 4000000 in
theorem sines_AF : AF Tryd.prog (gl0 m) 62 [] (.agg (sineL.map wD)) := by
  refine AF_by SpOK.none mixed F62_ok ?_
  simp [F62]
  rfl
/-! ### bytes -/
theorem byL_length (l : List UInt8) : (byL l).length = l.length := List.length_map _
theorem byL_byteOf (l : List UInt8) : (byL l).map byteOf = l := by
  simp [byL, byteOf, Function.comp_def]
theorem byL_append (l r : List UInt8) : byL l ++ byL r = byL (l ++ r) := by simp [byL]
theorem byL_drop (l : List UInt8) (n : Nat) : (byL l).drop n = byL (l.drop n) := by simp [byL, List.map_drop]
theorem byL_bytesD (s : ByteArray) : bytesD s = byL s.data.toList := rfl
def wbytes (least : Bool) (w : W) : List UInt8 := let v := if least then revP w else w; [lb (v >>> 24), lb (v >>> 16), lb (v >>> 8), lb v]
theorem appended_AFT (l : List UInt8) (w : W) (least : Bool) (hl : l.length ≤ 140737488355000) : AFT Tryd.prog (gl0 m) 65 5 1 (byL l) [wA w, .one (.v (.bool least))] (byL (l ++ wbytes least w)) := by
  refine AFT_of (SpOK.cons (revS_ok m) SpOK.none) mixed F65_ok (s := 6) rfl ?_
  have hlen := byL_length l
  cases least
  · rw [← byL_append]
    generalize byL l = xs at *
    simp [F65, wA, wV, IntKind.bits, revS, iw_wi, w_shr8, w_shr16, w_shr24, w_byte]
    refine ⟨by omega, ?_⟩
    simp [wbytes, byL]
  · rw [← byL_append]
    generalize byL l = xs at *
    simp [F65, wA, wV, IntKind.bits, revS, iw_wi, w_shr8, w_shr16, w_shr24, w_byte]
    refine ⟨by omega, ?_⟩
    simp [wbytes, byL]
def appS : List (List D) → List A → Option (Prop × List (List D))
  | xs, [.one (.v (.int .u32 w)), .one (.v (.bool least))] => some (xs = byL (xs.map byteOf) ∧ xs.length ≤ 140737488355000 ∧ w = wi (iw w), byL (xs.map byteOf ++ wbytes least (iw w)))
  | _, _ => none
theorem appS_ok : ∀ xs l p ys, appS xs l = some (p, ys) → p → AFT Tryd.prog (gl0 m) 65 5 1 xs l ys := by
  intro xs l p ys h hp
  unfold appS at h
  split at h
  · rename_i w least
    simp only [Option.some.injEq, Prod.mk.injEq] at h; obtain ⟨rfl, rfl⟩ := h
    obtain ⟨h1, h2, h3⟩ := hp
    have := appended_AFT m (xs.map byteOf) (iw w) least (by simpa using h2)
    rw [← h1] at this
    unfold wA wV at this
    rw [← h3] at this
    exact this
  · cases h
/-! ### filled -/
/-- How many zeros are filled in. -/
def padN (n : Nat) : Nat := (119 - n % 64) % 64
def fillP (least : Bool) (l : List UInt8) : List UInt8 :=
  let low : W := BitVec.ofNat 32 (8 * l.length)
  let high : W := BitVec.ofNat 32 (8 * l.length / 4294967296)
  let b := l ++ 128 :: List.replicate (padN l.length) 0
  if least then (b ++ wbytes least low) ++ wbytes least high else (b ++ wbytes least high) ++ wbytes least low
theorem wbytes_length (least : Bool) (w : W) : (wbytes least w).length = 4 := rfl
theorem wi_ofNat (n : Nat) : wi (BitVec.ofNat 32 n) = ((n % 4294967296 : Nat) : Int) := by simp [wi]
set_option maxRecDepth 100000 in
set_option maxHeartbeats 4000000 in
theorem filled_AF (s : ByteArray) (least : Bool) (hs : s.size ≤ 1000000000) : AF Tryd.prog (gl0 m) 63 [.one (.v (.string s)), .one (.v (.bool least))] (.one (.sl .no 1 (byL (fillP least s.data.toList)))) := by
  refine AF_by (SpOK.consT (appS_ok m) SpOK.none) mixed F63_ok ?_
  have hsz := size_data s
  have e72 : IntKind.i64.wrap ((s.size : Int) + 72) = (s.size : Int) + 72 := wrap_small _ (by omega) (by omega)
  have hbl : (bytesD s).flatten.length = s.size := by rw [← hsz, flatten_bytesD]; simp
  have hclo : cloL (bytesD s).flatten = some (bytesD s).flatten := by
    rw [flatten_bytesD]
    generalize s.data.toList = l
    induction l with
    | nil => rfl
    | cons b l ih => simp [cloL, D.clo] at ih ⊢; rw [ih]
  have hones : ones (bytesD s).flatten = byL s.data.toList := by rw [flatten_bytesD]; simp [ones, byL, Function.comp_def]
  have h128 : byL s.data.toList ++ [[D.v (.int .u8 128)]] = byL (s.data.toList ++ 128 :: List.replicate 0 0) := by simp [byL]
  generalize hB : (bytesD s).flatten = B at *
  have hol : (ones B).length = s.size := by simp [ones, hbl]
  have hmk : 0 ≤ (s.size : Int) := by omega
  simp [F63, e72, hB, hclo, hbl, hol]
  rw [hones, h128]
  refine ⟨by omega, by omega, ?_⟩
  generalize hl : s.data.toList = l at *
  refine awp_loop (fun k S => ∃ j t, j + k = padN l.length ∧ S.env 0 = some (.one (.v (.string s))) ∧ S.env 1 = some (.one (.v (.bool least))) ∧ S.env 5 = some (.one (.sl (.tk t) 1 (byL (l ++ 128 :: List.replicate j 0)))) ∧ S.va 0 ∧ S.va 1 ∧ S.va 5 ∧ S.tk t = some (5, 1)) ⟨padN l.length, 0, 13, ?_⟩ ?_
  · simp
  rintro k S ⟨j, t, hjk, e0, e1, e5, v0, v1, v5, ht⟩
  have hcl : (l ++ 128 :: List.replicate j 0).length = l.length + 1 + j := by simp; omega
  have hpl : (byL (l ++ 128 :: List.replicate j 0)).length = l.length + 1 + j := by rw [byL_length, hcl]
  have hnext : byL (l ++ 128 :: List.replicate j 0) ++ [[D.v (.int .u8 0)]] = byL (l ++ 128 :: List.replicate (j + 1) 0) := by
    rw [List.replicate_succ']
    simp [byL]
  have hmod : ((l.length : Int) + 1 + (j : Int)).tmod 64 = (((l.length + 1 + j) % 64 : Nat) : Int) := by
    rw [Int.tmod_eq_emod_of_nonneg (by omega)]; omega
  have q1 : IntKind.u64.wrap (s.size : Int) = (s.size : Int) := by simp [IntKind.wrap, IntKind.bits, IntKind.signed]; omega
  have q2 : IntKind.u64.wrap ((s.size : Int) * 8) = ((8 * l.length : Nat) : Int) := by simp [IntKind.wrap, IntKind.bits, IntKind.signed]; omega
  have q3 : IntKind.u32.wrap ((8 * l.length : Nat) : Int) = wi (BitVec.ofNat 32 (8 * l.length)) := by rw [IntKind.wrap_u32', wi_ofNat]; omega
  have q4 : IntKind.u32.wrap (((8 * l.length : Nat) : Int) / 4294967296) = wi (BitVec.ofNat 32 (8 * l.length / 4294967296)) := by rw [IntKind.wrap_u32', wi_ofNat]; omega
  by_cases hj : j < padN l.length
  · have h56 : ¬ (((l.length + 1 + j) % 64 : Nat) : Int) = 56 := by unfold padN at hj; omega
    generalize byL (l ++ 128 :: List.replicate j 0) = xs at *
    generalize ((l.length + 1 + j) % 64) = r at *
    have h56' : ¬ (r : Int) = 56 := by omega
    have hpad : padN l.length < 64 := by unfold padN; omega
    simp [e0, e1, e5, v0, v1, v5, ht, hpl, hmod, h56']
    exact ⟨by omega, k - 1, by omega, j + 1, by omega, S.nx + 4 + 2, ⟨rfl, hnext⟩, fun h => absurd rfl h⟩
  · have hje : j = padN l.length := by omega
    subst hje
    have h56 : ((l.length + 1 + padN l.length) % 64) = 56 := by unfold padN; omega
    rw [h56] at hmod
    have hfin : fillP least l = if least then ((l ++ 128 :: List.replicate (padN l.length) 0) ++ wbytes least (BitVec.ofNat 32 (8 * l.length))) ++ wbytes least (BitVec.ofNat 32 (8 * l.length / 4294967296)) else ((l ++ 128 :: List.replicate (padN l.length) 0) ++ wbytes least (BitVec.ofNat 32 (8 * l.length / 4294967296))) ++ wbytes least (BitVec.ofNat 32 (8 * l.length)) := rfl
    rw [hfin]
    have hpad : padN l.length < 64 := by unfold padN; omega
    have hmod' : ((l.length : Int) + 1 + (padN l.length : Int)).tmod 64 = 56 := hmod
    generalize BitVec.ofNat 32 (8 * l.length) = lo at *
    generalize BitVec.ofNat 32 (8 * l.length / 4294967296) = hi at *
    generalize 8 * l.length = L8 at *
    generalize hcur : l ++ 128 :: List.replicate (padN l.length) 0 = cur at *
    have hl1 : ∀ w, (byL (cur ++ wbytes least w)).length = l.length + 1 + padN l.length + 4 := fun w => by rw [byL_length, List.length_append, hcl, wbytes_length]
    cases least <;> simp [e0, e1, e5, v0, v1, v5, ht, hpl, hmod', IntKind.bits, q1, q2, q3, q4, appS, iw_wi, byL_byteOf, hl1] <;> omega
end Go.Proofs.YtbhingdlclfipaaDoor.Ab
