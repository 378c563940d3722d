/- The layer digest: MD5; Salted. -/
import Derived.Test.YtbhingdlclfipaaDoorGd
namespace Go.Proofs.YtbhingdlclfipaaDoor.Ab
open Go Go.RowKit Go.Proofs
set_option linter.unusedVariables false
set_option linter.unusedSimpArgs false
variable (m : Int)
def h0 : H4 := ⟨1732584193#32, 4023233417#32, 2562383102#32, 271733878#32⟩
def mdGo : Nat → H4 → List UInt8 → H4
  | 0, h, _ => h
  | n + 1, h, l => mdGo n (blockP h l) (l.drop 64)
def mdOut (h : H4) : List UInt8 := ((wbytes true h.a ++ wbytes true h.b) ++ wbytes true h.c) ++ wbytes true h.d
def md5L (s : List UInt8) : List UInt8 := let f := fillP true s; mdOut (mdGo (f.length / 64) h0 f)
def md5B (s : ByteArray) : ByteArray := ⟨(md5L s.data.toList).toArray⟩
theorem fillP_length (least : Bool) (l : List UInt8) : (fillP least l).length = l.length + padN l.length + 9 := by
  cases least <;> simp [fillP, wbytes_length] <;> omega
theorem fillP_mod (least : Bool) (l : List UInt8) : (fillP least l).length % 64 = 0 := by
  rw [fillP_length]; unfold padN; omega
def filledS : List A → Option (Prop × A)
  | [.one (.v (.string s)), .one (.v (.bool least))] => some (s.size ≤ 1000000000, .one (.sl .no 1 (byL (fillP least s.data.toList))))
  | _ => none
theorem filledS_ok : ∀ l p r, filledS l = some (p, r) → p → AF Tryd.prog (gl0 m) 63 l r := by
  intro l p r h hp
  unfold filledS at h
  split at h
  · simp only [Option.some.injEq, Prod.mk.injEq] at h; obtain ⟨rfl, rfl⟩ := h
    exact filled_AF m _ _ hp
  · cases h
def sinesS : List A → Option (Prop × A)
  | [] => some (True, .agg (sineL.map wD))
  | _ => none
theorem sinesS_ok : ∀ l p r, sinesS l = some (p, r) → p → AF Tryd.prog (gl0 m) 62 l r := by
  intro l p r h hp
  unfold sinesS at h
  split at h
  · simp only [Option.some.injEq, Prod.mk.injEq] at h; obtain ⟨rfl, rfl⟩ := h
    exact sines_AF m
  · cases h
def h4of : List D → Option H4
  | [.v (.int .u32 a), .v (.int .u32 b), .v (.int .u32 c), .v (.int .u32 d)] => some ⟨iw a, iw b, iw c, iw d⟩
  | _ => none
def blockS : List A → Option (Prop × A)
  | [.tup [.agg hs], .one (.sl .no 1 xs), .tup [.agg sn]] => (h4of hs).map fun h => (hs = h.D ∧ sn = sineL.map wD ∧ xs = byL (xs.map byteOf) ∧ 64 ≤ xs.length ∧ xs.length ≤ 1000000000, .tup [.tup [], .agg (blockP h (xs.map byteOf)).D, .agg (sineL.map wD)])
  | _ => none
theorem blockS_ok : ∀ l p r, blockS l = some (p, r) → p → ∃ r0 css, r = .tup (r0 :: css.map .agg) ∧ AFP Tryd.prog (gl0 m) 64 l r0 css := by
  intro l p r h hp
  unfold blockS at h
  split at h
  · rename_i hs xs sn
    obtain ⟨h4, hh, h⟩ := map_some h
    simp only [Prod.mk.injEq] at h; obtain ⟨rfl, rfl⟩ := h
    obtain ⟨rfl, rfl, h3, h4', h5⟩ := hp
    refine ⟨.tup [], [(blockP h4 (xs.map byteOf)).D, sineL.map wD], rfl, ?_⟩
    have := block_AFP m h4 (xs.map byteOf) (by simpa using h4') (by simpa using h5)
    rw [← h3] at this
    exact this
  · cases h
theorem setL_at : ∀ (ds a b : List D), b.length = ds.length → setL (a ++ b) a.length ds = a ++ ds
  | [], a, b, h => by have : b = [] := List.eq_nil_of_length_eq_zero h; subst this; rfl
  | d :: ds, a, [], h => by simp at h
  | d :: ds, a, x :: b, h => by
    simp only [setL]
    have e : (a ++ x :: b).set a.length d = (a ++ [d]) ++ b := by simp
    rw [e]
    have := setL_at ds (a ++ [d]) b (by simpa using h)
    simpa using this
theorem setL_all (cs ds : List D) (h : cs.length = ds.length) : setL cs 0 ds = ds := by
  have := setL_at ds [] cs h
  simpa using this
theorem h4of_D (h : H4) : h4of h.D = some h := by
  obtain ⟨a, b, c, d⟩ := h
  simp [h4of, H4.D, wD, wV, iw_wi]
theorem D4 (h : H4) : h.D = [.v (.int .u32 (wi h.a)), .v (.int .u32 (wi h.b)), .v (.int .u32 (wi h.c)), .v (.int .u32 (wi h.d))] := rfl
def outP (h : H4) (i : Nat) : List UInt8 := ([wbytes true h.a, wbytes true h.b, wbytes true h.c, wbytes true h.d].take i).flatten
theorem byL_isByte (l : List UInt8) : ∀ x ∈ byL l, isByte x := by
  intro x hx
  obtain ⟨b, _, rfl⟩ := List.mem_map.1 hx
  have := b.toNat_lt
  exact ⟨by omega, by omega⟩
theorem strOf_byL (l : List UInt8) : strOf (byL l) = ⟨l.toArray⟩ := by
  unfold strOf; rw [byL_byteOf]
def md5Sp2 : Sp := spp 64 blockS (spc 63 filledS (spc 62 sinesS (spt 65 5 1 appS fun _ _ => none)))
theorem md5Sp2_ok : SpOK Tryd.prog (gl0 m) md5Sp2 := SpOK.consP (blockS_ok m) (SpOK.cons (filledS_ok m) (SpOK.cons (sinesS_ok m) (SpOK.consT (appS_ok m) SpOK.none)))
set_option maxRecDepth 100000 in
set_option maxHeartbeats 4000000 in
theorem md5_AF (s : ByteArray) (hs : s.size ≤ 900000000) : AF Tryd.prog (gl0 m) 42 [.one (.v (.string s))] (.one (.v (.string (md5B s)))) := by
  refine AF_by (md5Sp2_ok m) mixed F42_ok ?_
  have hs9 : s.size ≤ 1000000000 := by omega
  have hsz := size_data s
  have hfl := fillP_length true s.data.toList
  have hfm := fillP_mod true s.data.toList
  have hpad : padN s.data.toList.length < 64 := by unfold padN; omega
  have hslen : (sineL.map wD).length = 64 := rfl
  have hsclo : cloL (sineL.map wD) = some (sineL.map wD) := by rfl
  have hmd : md5B s = ⟨(mdOut (mdGo ((fillP true s.data.toList).length / 64) h0 (fillP true s.data.toList))).toArray⟩ := rfl
  rw [hmd]
  generalize hf : fillP true s.data.toList = f at *
  have hset : ∀ cs : List D, cs.length = 64 → setL cs 0 (sineL.map wD) = sineL.map wD := fun cs h => setL_all cs _ (by rw [h]; rfl)
  simp [F42, hset, md5Sp2, filledS, sinesS, hs9, hslen, hsclo, hf]
  have hsof : ∀ h : H4, cloL h.D = some h.D := fun h => rfl
  generalize hsn : sineL.map wD = sn at *
  generalize htarget : mdGo (f.length / 64) h0 f = target at *
  refine awp_loop (fun k S => ∃ h l, l.length = 64 * k ∧ l.length ≤ 1000000000 ∧ mdGo k h l = target ∧ S.env 3 = some (.one (.ptr 2 0)) ∧ S.env 4 = some (.one (.ptr 5 0)) ∧ S.env 5 = some (.one (.sl .no 1 (byL l))) ∧ S.va 3 ∧ S.va 4 ∧ S.va 5 ∧ S.bx 2 = some (.cells 92 h.D) ∧ S.bx 5 = some (.cells 93 sn) ∧ 5 < S.nx) ⟨f.length / 64, h0, f, ?_⟩ ?_
  · refine ⟨by omega, by omega, htarget, ?_⟩
    simp [h0, D4]
    decide
  rintro k S ⟨h, l, hlk, hl9, hgo, e3, e4, e5, v3, v4, v5, b2, b5, hnx⟩
  by_cases hk : k = 0
  · subst hk
    have hl0 : l = [] := List.eq_nil_of_length_eq_zero (by omega)
    subst hl0
    have hth : h = target := hgo
    subst hth
    simp [e3, e4, e5, v3, v4, v5, b2, b5, D4, byL]
    refine awp_loop (fun k S => ∃ i, i + k = 4 ∧ S.env 21 = some (.one (.v (.int .i64 (i : Nat)))) ∧ S.env 20 = some (.agg h.D) ∧ S.va 21 ∧ S.va 20 ∧ S.va 6 ∧ ((i = 0 ∧ S.env 6 = some (.one (.sl .full 1 []))) ∨ (0 < i ∧ ∃ t, S.env 6 = some (.one (.sl (.tk t) 1 (byL (outP h i)))) ∧ S.tk t = some (5, 1)))) ⟨4, 0, ?_⟩ ?_
    · simp [D4]
    clear e3 e4 e5 v3 v4 v5 b2 b5 hnx
    clear S
    rintro k S ⟨i, hik, e21, e20, v21, v20, v6, hor⟩
    have htk0 : ∀ w : W, byL ([] ++ wbytes true w) = byL (wbytes true w) := fun w => rfl
    by_cases hi : i < 4
    · rcases hor with ⟨rfl, e6⟩ | ⟨hip, t, e6, ht⟩
      · simp [e21, e20, e6, v21, v20, v6, D4, appS, iw_wi]
        exact ⟨by decide, k - 1, by omega, 1, by omega, by decide, by decide, S.nx + 1 + 2 + 2, ⟨rfl, by simp [outP]⟩, fun h => absurd rfl h⟩
      · have hs : i = 1 ∨ i = 2 ∨ i = 3 := by omega
        rcases hs with rfl | rfl | rfl
        · simp [e21, e20, e6, ht, v21, v20, v6, D4, appS, iw_wi, byL_byteOf, byL_length]
          exact ⟨by simp [outP, wbytes_length], k - 1, by omega, 2, by omega, by decide, by decide, S.nx + 1 + 2 + 2, ⟨rfl, by simp [outP]⟩, fun h => absurd rfl h⟩
        · simp [e21, e20, e6, ht, v21, v20, v6, D4, appS, iw_wi, byL_byteOf, byL_length]
          exact ⟨by simp [outP, wbytes_length], k - 1, by omega, 3, by omega, by decide, by decide, S.nx + 1 + 2 + 2, ⟨rfl, by simp [outP]⟩, fun h => absurd rfl h⟩
        · simp [e21, e20, e6, ht, v21, v20, v6, D4, appS, iw_wi, byL_byteOf, byL_length]
          exact ⟨by simp [outP, wbytes_length], k - 1, by omega, 4, by omega, by decide, by decide, S.nx + 1 + 2 + 2, ⟨rfl, by simp [outP]⟩, fun h => absurd rfl h⟩
    · have hie : i = 4 := by omega
      subst hie
      rcases hor with ⟨h0, _⟩ | ⟨_, t, e6, ht⟩
      · cases h0
      · have hout : mdOut h = outP h 4 := by simp [mdOut, outP]
        rw [hout]
        simp [e21, e20, e6, ht, v21, v20, v6, strOf_byL, byL_length]
        exact byL_isByte _
  · have hk1 : ∃ k', k = k' + 1 := ⟨k - 1, by omega⟩
    obtain ⟨k', rfl⟩ := hk1
    have hlpos : (0 : Int) < (l.length : Int) := by omega
    have h64 : 64 ≤ l.length := by omega
    have hcur : (byL l).length = l.length := byL_length l
    have htk : List.take l.length (byL l) = byL l := List.take_of_length_le (by omega)
    simp [e3, e4, e5, v3, v4, v5, b2, b5, hsof, hsclo, hlpos, hcur, h4of_D, blockS, byL_byteOf, h64, hl9, htk, byL_drop, hsn, byL_length]
    rw [if_pos (by omega)]
    exact ⟨by omega, k', by omega, blockP h l, l.drop 64, by simp; omega, by simp; omega, hgo, rfl, rfl⟩
theorem md5L_length (l : List UInt8) : (md5L l).length = 16 := by simp [md5L, mdOut, wbytes_length]
theorem md5B_size (s : ByteArray) : (md5B s).size = 16 := by
  show (md5L s.data.toList).toArray.size = 16
  simp [md5L_length]
def md5S : List A → Option (Prop × A)
  | [.one (.v (.string s))] => some (s.size ≤ 900000000, .one (.v (.string (md5B s))))
  | _ => none
theorem md5S_ok : ∀ l p r, md5S l = some (p, r) → p → AF Tryd.prog (gl0 m) 42 l r := by
  intro l p r h hp
  unfold md5S at h
  split at h
  · simp only [Option.some.injEq, Prod.mk.injEq] at h; obtain ⟨rfl, rfl⟩ := h
    exact md5_AF m _ hp
  · cases h
def saltP (key pw tail : ByteArray) : ByteArray := md5B (key ++ md5B pw ++ tail)
theorem salted_AF (key pw tail : ByteArray) (h1 : key.size ≤ 100000000) (h2 : pw.size ≤ 100000000) (h3 : tail.size ≤ 100000000) : AF Tryd.prog (gl0 m) 27 [.one (.v (.string key)), .one (.v (.string pw)), .one (.v (.string tail))] (.one (.v (.string (saltP key pw tail)))) := by
  refine AF_by (SpOK.cons (md5S_ok m) SpOK.none) mixed F27_ok ?_
  have e1 : (md5B pw).size = 16 := md5B_size pw
  simp [F27, md5S, saltP, ByteArray.size_append, e1]
  omega
end Go.Proofs.YtbhingdlclfipaaDoor.Ab
