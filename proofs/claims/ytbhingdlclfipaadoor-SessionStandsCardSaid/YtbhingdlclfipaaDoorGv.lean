/- The layer session, part 21: the document's own session, step by step. -/
import Derived.Test.YtbhingdlclfipaaDoorGu
import Derived.Test.YtbhingdlclfipaaDoorGn
namespace Go.Proofs.YtbhingdlclfipaaDoor.Ab
open Go Go.RowKit Go.Proofs
set_option linter.unusedVariables false
set_option linter.unusedSimpArgs false
variable {m : Int}
theorem ext_list {a b : ByteArray} (h : a.data.toList = b.data.toList) : a = b := by
  cases a; cases b; simp only at h; congr 1; exact Array.toList_inj.1 h
theorem ext_one (s : ByteArray) (i : Nat) (hi : i < s.data.toList.length) : (s.extract i (i + 1)).data.toList = [s.data.toList[i]] := by
  have h1 : (s.extract i (i + 1)).data.toList = (s.data.toList.take (i + 1)).drop i := by
    rw [ByteArray.data_extract, Array.toList_extract, List.extract_eq_drop_take', List.drop_take]
  rw [h1, List.drop_take]
  rw [List.drop_eq_getElem_cons hi, Nat.add_sub_cancel_left]
  rfl
theorem byteAt_list (s : ByteArray) (i : Nat) (hi : i < s.data.toList.length) : byteAt s i = (s.data.toList[i].toNat : Int) := by
  have h : i < s.data.size := by simpa using hi
  unfold byteAt
  rw [Array.getD_eq_getD_getElem?, Array.getElem?_eq_getElem h]
  simp
def unS (l : List UInt8) : ByteArray := ⟨(unblank l).toArray⟩
theorem unS_size (l : List UInt8) : (unS l).size ≤ l.length := by
  have : (unS l).data.toList.length = (unS l).size := size_data _
  rw [← this]
  have h2 : (unblank l).length ≤ l.length := List.length_filter_le _ _
  show (unblank l).toArray.toList.length ≤ _
  simp only [List.toList_toArray]
  exact h2
theorem rnorm_AF (s : ByteArray) (hs : s.size ≤ 1000000) : AF Tryd.prog (gl0 m) 53 [.one (.v (.string s))] (.one (.v (.string (normB s)))) := by
  refine AF_by (SpOK.cons rfoldS_ok SpOK.none) mixed F53_ok ?_
  have hsz := size_data s
  have hne : normB s = foldB (unS s.data.toList) := norm_eq s
  simp [F53]
  refine awp_loop (fun k S => ∃ i, i + k = s.size ∧ S.env 0 = some (.one (.v (.string s))) ∧ S.env 3 = some (.one (.v (.string (unS (s.data.toList.take i))))) ∧ S.env 4 = some (.one (.v (.int .i64 (i : Nat)))) ∧ S.va 0 ∧ S.va 3 ∧ S.va 4) ⟨s.size, 0, ?_⟩ ?_
  · simp
    rfl
  rintro k S ⟨i, hik, e0, e3, e4, v0, v3, v4⟩
  by_cases hi : i < s.size
  · have hl : i < s.data.toList.length := by rw [hsz]; exact hi
    have hts := List.take_succ_eq_append_getElem hl
    have hb := byteAt_list s i hl
    have hx := ext_one s i hl
    have hw : IntKind.i64.wrap ((i : Int) + 1) = ((i + 1 : Nat) : Int) := by rw [wrap_small _ (by omega) (by omega)]; omega
    have hus := unS_size (s.data.toList.take i)
    rw [List.length_take] at hus
    generalize s.data.toList[i] = b at *
    by_cases h32 : b = 32
    · have hn : unS (s.data.toList.take (i + 1)) = unS (s.data.toList.take i) := by
        rw [hts]; simp [unS, unblank, h32]
      have hb' : byteAt s i = 32 := by rw [hb, h32]; rfl
      simp [e0, e3, e4, v0, v3, v4, hi, hb', hw, -Int.natCast_add]
      exact ⟨k - 1, by omega, i + 1, by omega, by rw [hn], rfl⟩
    · have hn : unS (s.data.toList.take (i + 1)) = unS (s.data.toList.take i) ++ s.extract i (i + 1) := by
        apply ext_list
        rw [ByteArray.data_append, Array.toList_append, hx, hts]
        simp [unS, unblank, h32]
      have hb' : ¬ byteAt s i = 32 := by
        rw [hb]; intro h; apply h32
        apply UInt8.toNat_inj.1
        have : b.toNat = 32 := by omega
        rw [this]; rfl
      simp [e0, e3, e4, v0, v3, v4, hi, hb', hw, -Int.natCast_add]
      exact ⟨⟨by omega, by omega⟩, k - 1, by omega, i + 1, by omega, by rw [hn], rfl⟩
  · have hie : i = s.size := by omega
    subst hie
    rw [List.take_of_length_le (by omega)] at e3
    have hle : (unS s.data.toList).size ≤ 140737488355328 := by have := unS_size s.data.toList; omega
    simp [e0, e3, e4, v0, v3, v4, rfoldS, hle, hne]
def rnormS : List A → Option (Prop × A)
  | [.one (.v (.string s))] => some (s.size ≤ 1000000, .one (.v (.string (normB s))))
  | _ => none
theorem rnormS_ok : ∀ l p r, rnormS l = some (p, r) → p → AF Tryd.prog (gl0 m) 53 l r := by
  intro l p r h hp
  unfold rnormS at h
  split at h
  · simp only [Option.some.injEq, Prod.mk.injEq] at h; obtain ⟨rfl, rfl⟩ := h
    exact rnorm_AF _ hp
  · cases h
theorem rlasting_AF (c : Int) : AF Tryd.prog (gl0 m) 18 [.one (.v (.int .i64 c))] (.one (.v (.bool (lastingB c)))) := by
  refine AF_by SpOK.none mixed F18_ok ?_
  simp [F18]
  by_cases h1 : c = 1
  · subst h1; simp [lastingB]
  by_cases h2 : c = 4
  · subst h2; simp [lastingB]
  by_cases h3 : c = 5
  · subst h3; simp [lastingB]
  by_cases h4 : c = 7
  · subst h4; simp [lastingB]
  by_cases h5 : c = 8
  · subst h5; simp [lastingB]
  by_cases h6 : c = 17
  · subst h6; simp [lastingB]
  simp [lastingB, h1, h2, h3, h4, h5, h6]
theorem runder_AF (s : Ses) : AF Tryd.prog (gl0 m) 57 [.agg s.d] (.one (.v (.bool s.under))) := by
  refine AF_by SpOK.none mixed F57_ok ?_
  simp [F57, Ses.d, Ses.under]
theorem rpass_AF (k : Int) : AF Tryd.prog (gl0 m) 58 [.one (.v (.int .i64 k))] (.one (.v (.bool (passB k)))) := by
  refine AF_by SpOK.none mixed F58_ok ?_
  simp [F58]
  by_cases q13 : k = 13
  · subst q13; simp [passB]
  by_cases q14 : k = 14
  · subst q14; simp [passB]
  by_cases q16 : k = 16
  · subst q16; simp [passB]
  by_cases q18 : k = 18
  · subst q18; simp [passB]
  by_cases q19 : k = 19
  · subst q19; simp [passB]
  by_cases q25 : k = 25
  · subst q25; simp [passB]
  by_cases q27 : k = 27
  · subst q27; simp [passB]
  by_cases q29 : k = 29
  · subst q29; simp [passB]
  simp [passB, q13, q14, q16, q18, q19, q25, q27, q29]
def runderS : List A → Option (Prop × A)
  | [.agg cs] => (Ses.of cs).map fun s => (True, .one (.v (.bool s.under)))
  | _ => none
theorem runderS_ok : ∀ l p r, runderS l = some (p, r) → p → AF Tryd.prog (gl0 m) 57 l r := by
  intro l p r h hp
  unfold runderS at h
  split at h
  · obtain ⟨c, hc, h⟩ := map_some h
    simp only [Prod.mk.injEq] at h; obtain ⟨rfl, rfl⟩ := h
    rw [Ses.of_d hc]
    exact runder_AF c
  · cases h
def rpassS : List A → Option (Prop × A)
  | [.one (.v (.int .i64 k))] => some (True, .one (.v (.bool (passB k))))
  | _ => none
theorem rpassS_ok : ∀ l p r, rpassS l = some (p, r) → p → AF Tryd.prog (gl0 m) 58 l r := by
  intro l p r h hp
  unfold rpassS at h
  split at h
  · simp only [Option.some.injEq, Prod.mk.injEq] at h; obtain ⟨rfl, rfl⟩ := h
    exact rpass_AF _
  · cases h
theorem rsent_AF (s : Ses) : AF Tryd.prog (gl0 m) 38 [.agg s.d] (.agg (sentP s).d) := by
  refine AF_by (SpOK.cons runderS_ok SpOK.none) mixed F38_ok ?_
  obtain ⟨ph, nm, pw, st, tm, ct, hd, sd, cd⟩ := s
  simp [F38, Ses.d, runderS, Ses.of, sentP]
  cases hu : Ses.under ⟨ph, nm, pw, st, tm, ct, hd, sd, cd⟩ <;> simp
theorem rstop_AF (s : Ses) (c : Int) : AF Tryd.prog (gl0 m) 37 [.agg s.d, .one (.v (.int .i64 c))] (pairS (stopP s c)) := by
  refine AF_by (SpOK.cons runderS_ok SpOK.none) mixed F37_ok ?_
  obtain ⟨ph, nm, pw, st, tm, ct, hd, sd, cd⟩ := s
  simp [F37, Ses.d, runderS, Ses.of]
  cases hu : Ses.under ⟨ph, nm, pw, st, tm, ct, hd, sd, cd⟩ <;> simp [stopP, hu, pairS, Ses.d, Sd.d, noS, nt, Nt.d, no, Ses.over, Ses.says]
theorem rtick_AF (s : Ses) : AF Tryd.prog (gl0 m) 36 [.agg s.d] (pairS (tickP s)) := by
  refine AF_by (SpOK.cons runderS_ok SpOK.none) mixed F36_ok ?_
  obtain ⟨ph, nm, pw, st, tm, ct, hd, sd, cd⟩ := s
  cases hu : Ses.under ⟨ph, nm, pw, st, tm, ct, hd, sd, cd⟩
  · simp [F36, Ses.d, runderS, Ses.of, hu, tickP, pairS, Sd.d, noS]
  have hu' : ∀ a b, Ses.under ⟨ph, nm, pw, st, tm, ct, a, b, cd⟩ = true := fun _ _ => hu
  by_cases h90 : 90 ≤ inc hd
  · have h90' := h90
    unfold inc at h90'
    simp [F36, Ses.d, runderS, Ses.of, hu, hu', h90, h90', tickP, pairS, Sd.d, noS, Ses.over, Ses.says, Ses.tick, nt, Nt.d, no, inc]
  have h90' := h90
  unfold inc at h90'
  by_cases h30 : 30 ≤ inc sd ∧ ph = 5
  · obtain ⟨h30, rfl⟩ := h30
    have h30' := h30
    unfold inc at h30'
    simp [F36, Ses.d, runderS, Ses.of, hu, hu', h90, h90', h30, h30', tickP, pairS, Sd.d, noS, Ses.over, Ses.says, Ses.tick, nt, Nt.d, no, inc]
  · have h30' := h30
    unfold inc at h30'
    simp [F36, Ses.d, runderS, Ses.of, hu, hu', h90, h90', h30, h30', tickP, pairS, Sd.d, noS, Ses.over, Ses.says, Ses.tick, nt, Nt.d, no]
    simp [inc]
end Go.Proofs.YtbhingdlclfipaaDoor.Ab
