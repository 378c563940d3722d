/- The layer session, part 18: the document's md5 is the code's. -/
import Derived.Test.YtbhingdlclfipaaDoorGr
namespace Go.Proofs.YtbhingdlclfipaaDoor.Ab
open Go Go.RowKit Go.Proofs
set_option linter.unusedVariables false
set_option linter.unusedSimpArgs false
variable {m : Int}
def tableS : List A → Option (Prop × A)
  | [] => some (True, .one (.sl .no 1 (sineL.map fun x => [wD x])))
  | _ => none
theorem tableS_ok : ∀ l p r, tableS l = some (p, r) → p → AF Tryd.prog (gl0 m) 44 l r := by
  intro l p r h hp
  unfold tableS at h
  split at h
  · simp only [Option.some.injEq, Prod.mk.injEq] at h; obtain ⟨rfl, rfl⟩ := h
    exact table_AF
  · cases h
def rfillS : List A → Option (Prop × A)
  | [.one (.v (.string s)), .one (.v (.bool true))] => some (s.size ≤ 1000000000, .one (.sl .no 1 (byL (fillP true s.data.toList))))
  | _ => none
theorem rfillS_ok : ∀ l p r, rfillS l = some (p, r) → p → AF Tryd.prog (gl0 m) 45 l r := by
  intro l p r h hp
  unfold rfillS at h
  split at h
  · simp only [Option.some.injEq, Prod.mk.injEq] at h; obtain ⟨rfl, rfl⟩ := h
    exact rfill_AF _ hp
  · cases h
def rwordS : List A → Option (Prop × A)
  | [.one (.sl .no 1 xs), .one (.v (.bool true))] => some (xs.length = 4 ∧ xs = byL (xs.map byteOf), wA (wordL true (xs.map byteOf)))
  | _ => none
theorem rwordS_ok : ∀ l p r, rwordS l = some (p, r) → p → AF Tryd.prog (gl0 m) 46 l r := by
  intro l p r h hp
  unfold rwordS at h
  split at h
  · rename_i xs
    simp only [Option.some.injEq, Prod.mk.injEq] at h; obtain ⟨rfl, rfl⟩ := h
    obtain ⟨h1, h2⟩ := hp
    have h3 : (xs.map byteOf).length = 4 := by rw [List.length_map, h1]
    generalize xs.map byteOf = q at *
    subst h2
    match q, h3 with
    | [a, b, c, d], _ =>
      have := rword_AF (m := m) a b c d
      rw [le4_rev] at this
      exact this
  · cases h
def rturnS : List A → Option (Prop × A)
  | [.one (.v (.int .u32 x)), .one (.v (.int .i64 k))] => some (x = wi (iw x) ∧ 0 ≤ k ∧ k < 32, wA (rotP (iw x) k.toNat))
  | _ => none
theorem rturnS_ok : ∀ l p r, rturnS l = some (p, r) → p → AF Tryd.prog (gl0 m) 47 l r := by
  intro l p r h hp
  unfold rturnS at h
  split at h
  · rename_i x k
    simp only [Option.some.injEq, Prod.mk.injEq] at h; obtain ⟨rfl, rfl⟩ := h
    obtain ⟨h1, h2, h3⟩ := hp
    have := rturn_AF (m := m) (iw x) k.toNat (by omega)
    unfold wA wV at this ⊢
    rw [← h1, Int.toNat_of_nonneg h2] at this
    exact this
  · cases h
def rturnsS : List A → Option (Prop × A)
  | [.one (.v (.int .i64 i))] => some (0 ≤ i ∧ i < 64, .one (.v (.int .i64 (turnsP i.toNat : Nat))))
  | _ => none
theorem rturnsS_ok : ∀ l p r, rturnsS l = some (p, r) → p → AF Tryd.prog (gl0 m) 48 l r := by
  intro l p r h hp
  unfold rturnsS at h
  split at h
  · rename_i k
    simp only [Option.some.injEq, Prod.mk.injEq] at h; obtain ⟨rfl, rfl⟩ := h
    have := rturns_AF (m := m) k.toNat (by omega)
    rw [Int.toNat_of_nonneg hp.1] at this
    exact this
  · cases h
def rbytesS : List A → Option (Prop × A)
  | [.one (.sl .full 1 [[.v (.int .u32 a)], [.v (.int .u32 b)], [.v (.int .u32 c)], [.v (.int .u32 d)]]), .one (.v (.bool true))] => some ((a = wi (iw a) ∧ b = wi (iw b)) ∧ c = wi (iw c) ∧ d = wi (iw d), .one (.v (.string ⟨([iw a, iw b, iw c, iw d].flatMap leB).toArray⟩)))
  | _ => none
theorem rbytesS_ok : ∀ l p r, rbytesS l = some (p, r) → p → AF Tryd.prog (gl0 m) 49 l r := by
  intro l p r h hp
  unfold rbytesS at h
  split at h
  · rename_i a b c d
    simp only [Option.some.injEq, Prod.mk.injEq] at h; obtain ⟨rfl, rfl⟩ := h
    have := rbytes_AF (m := m) [iw a, iw b, iw c, iw d] (by simp) (by simp)
    simp only [wL, List.map_cons, List.map_nil, wD, wV] at this
    rw [← hp.1.1, ← hp.1.2, ← hp.2.1, ← hp.2.2] at this
    exact this
  · cases h
def rmdSp : Sp := spc 44 tableS (spc 45 rfillS (spc 46 rwordS (spc 47 rturnS (spc 48 rturnsS (spc 49 rbytesS fun _ _ => none)))))
theorem rmdSp_ok : SpOK Tryd.prog (gl0 m) rmdSp := SpOK.cons tableS_ok (SpOK.cons rfillS_ok (SpOK.cons rwordS_ok (SpOK.cons rturnS_ok (SpOK.cons rturnsS_ok (SpOK.cons rbytesS_ok SpOK.none)))))
theorem mdOut_le (h : H4) : mdOut h = [h.a, h.b, h.c, h.d].flatMap leB := by simp [mdOut, wbytes_le]
set_option maxRecDepth 100000 in
set_option maxHeartbeats 16000000 in
theorem rmd5_AF (s : ByteArray) (hs : s.size ≤ 900000000) : AF Tryd.prog (gl0 m) 29 [.one (.v (.string s))] (.one (.v (.string (md5B s)))) := by
  refine AF_by rmdSp_ok mixed F29_ok ?_
  have hs9 : s.size ≤ 1000000000 := by omega
  have hsz := size_data s
  have hfl := fillP_length true s.data.toList
  have hfm := fillP_mod true s.data.toList
  have hpad : padN s.data.toList.length < 64 := by unfold padN; omega
  have hmd : md5B s = ⟨(mdOut (mdGo ((fillP true s.data.toList).length / 64) h0 (fillP true s.data.toList))).toArray⟩ := rfl
  have htb : ∀ i, i < 64 → (sineL.map fun x => [wD x])[i]? = some [D.v (.int .u32 (wi (sineP i)))] := by
    intro i hi
    have := sine_get i hi
    rw [List.getElem?_map] at this ⊢
    cases h : sineL[i]? with
    | none => rw [h] at this; cases this
    | some x => rw [h] at this; simp only [Option.map_some, Option.some.injEq] at this ⊢; rw [this]; rfl
  have htl : (sineL.map fun x => [wD x]).length = 64 := rfl
  rw [hmd]
  have hfb := byL_length (fillP true s.data.toList)
  generalize hf : fillP true s.data.toList = f at *
  have htd : ∀ a b : Nat, List.drop a (List.take b (byL f)) = byL (List.drop a (List.take b f)) := fun a b => by simp [byL, List.map_drop, List.map_take]
  simp [F29, rmdSp, tableS, rfillS, hs9, hf]
  generalize hfs : byL f = fs at *
  generalize htbb : (sineL.map fun x => [wD x]) = tb at *
  generalize htarget : mdGo (f.length / 64) h0 f = target at *
  refine awp_loop (fun k S => ∃ (n : Nat) (h : H4), n + 64 * k = f.length ∧ mdGo k h (f.drop n) = target ∧ S.env 3 = some (.one (.sl .full 1 [[.v (.int .u32 (wi h.a))], [.v (.int .u32 (wi h.b))], [.v (.int .u32 (wi h.c))], [.v (.int .u32 (wi h.d))]])) ∧ S.env 4 = some (.one (.sl .no 1 tb)) ∧ S.env 5 = some (.one (.sl .no 1 fs)) ∧ S.env 6 = some (.one (.v (.int .i64 (n : Nat)))) ∧ (S.va 3 ∧ S.va 4 ∧ S.va 5 ∧ S.va 6)) ⟨f.length / 64, 0, h0, ?_⟩ ?_
  · refine ⟨by omega, htarget, ?_⟩
    simp [h0]
    decide
  rintro k S ⟨n, h, hnk, hgo, e3, e4, e5, e6, ⟨v3, v4, v5, v6⟩⟩
  by_cases hk : k = 0
  · subst hk
    have hn : n = f.length := by omega
    subst hn
    have hth : h = target := hgo
    subst hth
    simp [e3, e4, e5, e6, v3, v4, v5, v6, hfb, rmdSp, rbytesS, iw_wi, mdOut_le]
  · obtain ⟨k', rfl⟩ : ∃ k', k = k' + 1 := ⟨k - 1, by omega⟩
    have hlt : (n : Int) < (f.length : Int) := by omega
    have hgo' : mdGo k' (blockP h (f.drop n)) ((f.drop n).drop 64) = target := hgo
    simp [e3, e4, e5, e6, v3, v4, v5, v6, hfb, hlt]
    refine awp_loop (fun k S => ∃ (i : Nat), i + k = 64 ∧ S.env 7 = some (wA (roundsP (f.drop n) h i).a) ∧ S.env 8 = some (wA (roundsP (f.drop n) h i).b) ∧ S.env 9 = some (wA (roundsP (f.drop n) h i).c) ∧ S.env 10 = some (wA (roundsP (f.drop n) h i).d) ∧ S.env 11 = some (.one (.v (.int .i64 (i : Nat)))) ∧
      S.env 3 = some (.one (.sl .full 1 [[.v (.int .u32 (wi h.a))], [.v (.int .u32 (wi h.b))], [.v (.int .u32 (wi h.c))], [.v (.int .u32 (wi h.d))]])) ∧ S.env 4 = some (.one (.sl .no 1 tb)) ∧ S.env 5 = some (.one (.sl .no 1 fs)) ∧ S.env 6 = some (.one (.v (.int .i64 (n : Nat)))) ∧ ((S.va 3 ∧ S.va 4 ∧ S.va 5 ∧ S.va 6) ∧ S.va 7 ∧ S.va 8 ∧ S.va 9 ∧ S.va 10 ∧ S.va 11)) ⟨64, 0, ?_⟩ ?_
    · simp [e3, e4, e5, e6, v3, v4, v5, v6, wA, wV]
      exact ⟨rfl, rfl, rfl, rfl⟩
    clear e3 e4 e5 e6 v3 v4 v5 v6
    rintro q S ⟨i, hiq, e7, e8, e9, e10, e11, e3, e4, e5, e6, ⟨v3, v4, v5, v6⟩, v7, v8, v9, v10, v11⟩
    by_cases hi : i < 64
    · have hi64 : (i : Int) < 64 := by omega
      have hnext := roundsP_succ (f.drop n) h i
      generalize roundsP (f.drop n) h i = w at *
      have htg := htb i hi
      have hil : i < tb.length := by omega
      have htg' := (List.getElem?_eq_some_iff.1 htg).2
      have hturn := turnsP_lt i
      have hturn' : (turnsP i : Int) < 32 := by omega
      have w11 : IntKind.i64.wrap ((i : Int) + 1) = ((i + 1 : Nat) : Int) := by rw [wrap_small _ (by omega) (by omega)]; omega
      obtain ⟨F, g, hF⟩ : ∃ F g, mixP w.b w.c w.d i = (F, g) := ⟨_, _, rfl⟩
      have hg16 : g < 16 := by have := mix_lt' w.b w.c w.d i; rw [hF] at this; exact this
      have hst : stepP (f.drop n) w i = ⟨w.d, w.b + rotP (w.a + F + sineP i + mW (f.drop n) g) (turnsP i), w.b, w.c⟩ := by rw [stepP, hF]
      rw [hst] at hnext
      have x4 : IntKind.i64.wrap (4 * (g : Int)) = ((4 * g : Nat) : Int) := by rw [wrap_small _ (by omega) (by omega)]; omega
      have x5 : IntKind.i64.wrap ((n : Int) + ((4 * g : Nat) : Int)) = ((n + 4 * g : Nat) : Int) := by rw [wrap_small _ (by omega) (by omega)]; omega
      have x6 : IntKind.i64.wrap (((n + 4 * g : Nat) : Int) + 4) = ((n + 4 * g + 4 : Nat) : Int) := by rw [wrap_small _ (by omega) (by omega)]; omega
      have htd' := htd (n + 4 * g) (n + 4 * g + 4)
      have hql : (List.drop (n + 4 * g) (List.take (n + 4 * g + 4) f)).length = 4 := by rw [List.length_drop, List.length_take]; omega
      have hword : wordL true (List.drop (n + 4 * g) (List.take (n + 4 * g + 4) f)) = mW (f.drop n) g := by
        unfold mW wordL
        have hd : ∀ j, j < 4 → (List.drop (n + 4 * g) (List.take (n + 4 * g + 4) f)).getD j 0 = ((f.drop n).drop (4 * g)).getD j 0 := by
          intro j hj
          rw [List.getD_eq_getElem?_getD, List.getD_eq_getElem?_getD, List.getElem?_drop, List.getElem?_drop, List.getElem?_drop, List.getElem?_take, if_pos (by omega)]
          congr 2; omega
        rw [hd 0 (by omega), hd 1 (by omega), hd 2 (by omega), hd 3 (by omega)]
      have hqb := byL_length (List.drop (n + 4 * g) (List.take (n + 4 * g + 4) f))
      have hqm := byL_byteOf (List.drop (n + 4 * g) (List.take (n + 4 * g + 4) f))
      have hfit : n + 4 * g + 4 ≤ f.length := by omega
      generalize List.drop (n + 4 * g) (List.take (n + 4 * g + 4) f) = Q at *
      generalize hA4 : n + 4 * g = A4 at *
      generalize hG4 : 4 * g = G4 at *
      generalize hX : mW (f.drop n) g = X at *
      generalize hT : turnsP i = T at *
      by_cases h1 : i < 16
      · obtain ⟨rfl, rfl⟩ : F = (w.b &&& w.c) ||| (~~~ w.b &&& w.d) ∧ g = i := by
          rw [mixP, if_pos h1, mix_a] at hF; exact ⟨(congrArg Prod.fst hF).symm, (congrArg Prod.snd hF).symm⟩
        have hq0 : IntKind.i64.wrap ((g : Int) / 16) = 0 := by rw [wrap_small _ (by omega) (by omega)]; omega
        simp [e3, e4, e5, e6, e7, e8, e9, e10, e11, v3, v4, v5, v6, v7, v8, v9, v10, v11, rmdSp, rwordS, rturnS, rturnsS, wA, wV, w_and, w_or, w_xor, w_not, w_add, iw_wi, IntKind.signed, IntKind.max, IntKind.bits, hi64, hi, hil, htg, htg', htl, x4, x5, x6, htd', hqb, hqm, hql, hword, hturn, hturn', hT, w11, hfb, hq0, -Int.natCast_mul, -Int.natCast_add]
        refine ⟨hfit, q - 1, by omega, g + 1, by omega, ?_, ?_, ?_, ?_, rfl⟩ <;> rw [hnext]
      by_cases h2 : i < 32
      · obtain ⟨rfl, hg⟩ : F = (w.d &&& w.b) ||| (~~~ w.d &&& w.c) ∧ (5 * i + 1) % 16 = g := by
          rw [mixP, if_neg h1, if_pos h2, mix_b] at hF; exact ⟨(congrArg Prod.fst hF).symm, congrArg Prod.snd hF⟩
        have hq0 : IntKind.i64.wrap ((i : Int) / 16) = 1 := by rw [wrap_small _ (by omega) (by omega)]; omega
        have y5 : IntKind.i64.wrap (5 * (i : Int)) = ((5 * i : Nat) : Int) := by rw [wrap_small _ (by omega) (by omega)]; omega
        have y6 : IntKind.i64.wrap (((5 * i : Nat) : Int) + 1) = ((5 * i + 1 : Nat) : Int) := by rw [wrap_small _ (by omega) (by omega)]; omega
        have y7 : ((5 * i + 1 : Nat) : Int).tmod 16 = (g : Int) := by rw [Int.tmod_eq_emod_of_nonneg (by omega)]; omega
        simp [e3, e4, e5, e6, e7, e8, e9, e10, e11, v3, v4, v5, v6, v7, v8, v9, v10, v11, rmdSp, rwordS, rturnS, rturnsS, wA, wV, w_and, w_or, w_xor, w_not, w_add, iw_wi, IntKind.signed, IntKind.max, IntKind.bits, hi64, hi, hil, htg, htg', htl, x4, x5, x6, htd', hqb, hqm, hql, hword, hturn, hturn', hT, w11, hfb, hq0, -Int.natCast_mul, -Int.natCast_add, y5, y6, y7]
        refine ⟨hfit, q - 1, by omega, i + 1, by omega, ?_, ?_, ?_, ?_, rfl⟩ <;> rw [hnext]
      by_cases h3 : i < 48
      · obtain ⟨rfl, hg⟩ : F = (w.b ^^^ w.c) ^^^ w.d ∧ (3 * i + 5) % 16 = g := by
          rw [mixP, if_neg h1, if_neg h2, if_pos h3] at hF; exact ⟨(congrArg Prod.fst hF).symm, congrArg Prod.snd hF⟩
        have hq0 : IntKind.i64.wrap ((i : Int) / 16) = 2 := by rw [wrap_small _ (by omega) (by omega)]; omega
        have y5 : IntKind.i64.wrap (3 * (i : Int)) = ((3 * i : Nat) : Int) := by rw [wrap_small _ (by omega) (by omega)]; omega
        have y6 : IntKind.i64.wrap (((3 * i : Nat) : Int) + 5) = ((3 * i + 5 : Nat) : Int) := by rw [wrap_small _ (by omega) (by omega)]; omega
        have y7 : ((3 * i + 5 : Nat) : Int).tmod 16 = (g : Int) := by rw [Int.tmod_eq_emod_of_nonneg (by omega)]; omega
        simp [e3, e4, e5, e6, e7, e8, e9, e10, e11, v3, v4, v5, v6, v7, v8, v9, v10, v11, rmdSp, rwordS, rturnS, rturnsS, wA, wV, w_and, w_or, w_xor, w_not, w_add, iw_wi, IntKind.signed, IntKind.max, IntKind.bits, hi64, hi, hil, htg, htg', htl, x4, x5, x6, htd', hqb, hqm, hql, hword, hturn, hturn', hT, w11, hfb, hq0, -Int.natCast_mul, -Int.natCast_add, y5, y6, y7]
        refine ⟨hfit, q - 1, by omega, i + 1, by omega, ?_, ?_, ?_, ?_, rfl⟩ <;> rw [hnext]
      · obtain ⟨rfl, hg⟩ : F = w.c ^^^ (w.b ||| ~~~ w.d) ∧ 7 * i % 16 = g := by
          rw [mixP, if_neg h1, if_neg h2, if_neg h3] at hF; exact ⟨(congrArg Prod.fst hF).symm, congrArg Prod.snd hF⟩
        have hq0 : IntKind.i64.wrap ((i : Int) / 16) = 3 := by rw [wrap_small _ (by omega) (by omega)]; omega
        have y5 : IntKind.i64.wrap (7 * (i : Int)) = ((7 * i : Nat) : Int) := by rw [wrap_small _ (by omega) (by omega)]; omega
        have y7 : ((7 * i : Nat) : Int).tmod 16 = (g : Int) := by rw [Int.tmod_eq_emod_of_nonneg (by omega)]; omega
        simp [e3, e4, e5, e6, e7, e8, e9, e10, e11, v3, v4, v5, v6, v7, v8, v9, v10, v11, rmdSp, rwordS, rturnS, rturnsS, wA, wV, w_and, w_or, w_xor, w_not, w_add, iw_wi, IntKind.signed, IntKind.max, IntKind.bits, hi64, hi, hil, htg, htg', htl, x4, x5, x6, htd', hqb, hqm, hql, hword, hturn, hturn', hT, w11, hfb, hq0, -Int.natCast_mul, -Int.natCast_add, y5, y7]
        refine ⟨hfit, q - 1, by omega, i + 1, by omega, ?_, ?_, ?_, ?_, rfl⟩ <;> rw [hnext]
    · have hie : i = 64 := by omega
      subst hie
      have hbp : blockP h (f.drop n) = ⟨h.a + (roundsP (f.drop n) h 64).a, h.b + (roundsP (f.drop n) h 64).b, h.c + (roundsP (f.drop n) h 64).c, h.d + (roundsP (f.drop n) h 64).d⟩ := rfl
      rw [hbp, List.drop_drop] at hgo'
      generalize roundsP (f.drop n) h 64 = w at *
      have w64 : IntKind.i64.wrap ((n : Int) + 64) = ((n + 64 : Nat) : Int) := by rw [wrap_small _ (by omega) (by omega)]; omega
      simp [e3, e4, e5, e6, e7, e8, e9, e10, e11, v3, v4, v5, v6, v7, v8, v9, v10, v11, wA, wV, w_add, w64, -Int.natCast_add]
      exact ⟨k', by omega, n + 64, by omega, _, hgo', ⟨rfl, rfl, rfl, rfl⟩, rfl⟩
end Go.Proofs.YtbhingdlclfipaaDoor.Ab
