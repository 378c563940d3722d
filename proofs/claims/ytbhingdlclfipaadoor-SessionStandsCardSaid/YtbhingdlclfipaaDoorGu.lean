/- The layer session, part 20: the document's own session. -/
import Derived.Test.YtbhingdlclfipaaDoorGt
namespace Go.Proofs.YtbhingdlclfipaaDoor.Ab
open Go Go.RowKit Go.Proofs
set_option linter.unusedVariables false
set_option linter.unusedSimpArgs false
variable {m : Int}
/-! ### Fold: the bytes are a variable here -/
def F69m : Fun := { n := 35, code := .seq (.reg false [
  ⟨some 2, .mv (.c (.one (.v (.string ⟨#[]⟩)))), none, [], true, []⟩]) (.seq (.reg false [
  ⟨some 5, .mv (.t 0), none, [], true, []⟩,
  ⟨some 6, .cvm 5 (.t 5), none, [], true, []⟩,
  ⟨some 3, .mv (.t 6), none, [], true, []⟩]) (.seq (.seq (.reg false [
  ⟨some 4, .mv (.c (.one (.v (.int .i64 0)))), none, [], true, []⟩]) (.block 0 (.loop (.seq (.seq (.reg false [
  ⟨some 7, .mv (.t 4), none, [], true, []⟩,
  ⟨some 8, .mv (.t 3), none, [], true, []⟩,
  ⟨some 9, .len false (.t 8), none, [], true, []⟩,
  ⟨some 10, .bin .lss (.t 7) (.t 9), none, [], true, []⟩]) (.cond (.t 10) (.skip) (.exit 0))) (.seq (.block 1 (.seq (.reg false [
  ⟨some 13, .mv (.t 3), none, [], true, []⟩,
  ⟨some 14, .mv (.t 4), none, [], true, []⟩,
  ⟨some 15, .iad 1 (.t 13) (.t 14), none, [], true, []⟩,
  ⟨some 16, .load 1 false (.t 15), none, [], true, []⟩,
  ⟨some 17, .bin .geq (.t 16) (.c (.one (.v (.int .u8 65)))), none, [], true, []⟩,
  ⟨some 18, .mv (.t 17), none, [], true, []⟩,
  ⟨some 19, .mv (.t 3), some (18, true), [], true, []⟩,
  ⟨some 20, .mv (.t 4), some (18, true), [], true, []⟩,
  ⟨some 21, .iad 1 (.t 19) (.t 20), some (18, true), [], true, []⟩,
  ⟨some 22, .load 1 false (.t 21), some (18, true), [], true, []⟩,
  ⟨some 23, .bin .leq (.t 22) (.c (.one (.v (.int .u8 90)))), some (18, true), [], true, []⟩,
  ⟨some 24, .pick (.t 18) (.t 23) (.c (.one (.v (.bool false)))), none, [], true, []⟩]) (.cond (.t 24) (.reg false [
  ⟨some 25, .mv (.t 3), none, [], true, []⟩,
  ⟨some 26, .mv (.t 4), none, [], true, []⟩,
  ⟨some 27, .mv (.t 3), none, [], true, []⟩,
  ⟨some 28, .mv (.t 4), none, [], true, []⟩,
  ⟨some 29, .iad 1 (.t 27) (.t 28), none, [], true, []⟩,
  ⟨some 30, .load 1 false (.t 29), none, [], true, []⟩,
  ⟨some 31, .bin .add (.t 30) (.c (.one (.v (.int .u8 32)))), none, [], true, []⟩,
  ⟨some 32, .iad 1 (.t 25) (.t 26), none, [], true, []⟩,
  ⟨none, .store 1 (.t 32) (.t 31), none, [], true, []⟩]) (.skip)))) (.reg false [
  ⟨some 11, .mv (.t 4), none, [], true, []⟩,
  ⟨some 12, .bin .add (.t 11) (.c (.one (.v (.int .i64 1)))), none, [], true, []⟩,
  ⟨some 4, .mv (.t 12), none, [], true, []⟩])))))) (.seq (.reg false [
  ⟨some 33, .mv (.t 3), none, [], true, []⟩,
  ⟨some 34, .cvs (.t 33), none, [], true, []⟩,
  ⟨some 2, .mv (.t 34), none, [], true, []⟩]) (.ret)))), res := [.t 2] }
theorem F69m_ok : mtF Tryd.prog 69 F69m = true := by kernel_rfl
theorem low_same_all : (List.range 256).all (fun n => decide (lowI (n : Int) = if 65 ≤ (n : Int) ∧ (n : Int) ≤ 90 then IntKind.wrap .u8 ((n : Int) + 32) else (n : Int))) = true := by kernel_rfl
theorem low_same (b : UInt8) : lowI (b.toNat : Int) = if 65 ≤ (b.toNat : Int) ∧ (b.toNat : Int) ≤ 90 then IntKind.wrap .u8 ((b.toNat : Int) + 32) else (b.toNat : Int) :=
  of_decide_eq_true (List.all_eq_true.1 low_same_all b.toNat (List.mem_range.2 b.toNat_lt))
set_option maxHeartbeats 4000000 in
theorem rfold_AF (s : ByteArray) (hs : s.size ≤ 140737488355328) : AF Tryd.prog (gl0 m) 69 [.one (.v (.string s))] (.one (.v (.string (foldB s)))) := by
  refine AF_by SpOK.none mixed F69m_ok ?_
  simp [F69m]
  refine ⟨hs, ?_⟩
  refine awp_loop (fun k S => ∃ i, i + k = s.size ∧ S.env 3 = some (.one (.rs 2 0 s.size)) ∧ S.env 4 = some (.one (.v (.int .i64 i))) ∧
    S.va 3 ∧ S.va 4 ∧ S.bx 2 = some (.cells 5 (foldCells s.data.toList i)) ∧ 2 < S.nx) ⟨s.size, 0, ?_⟩ ?_
  · have : (bytesD s).flatten = foldCells s.data.toList 0 := by rw [flatten_bytesD]; rfl
    simp [this]
  rintro k S ⟨i, hik, e3, e4, v3, v4, hb, hn⟩
  by_cases hi : i < s.size
  · have hl : i < s.data.toList.length := by rw [size_data]; exact hi
    have hg := foldCells_get hl
    have hgs := foldCells_set hl
    have hnx := foldCells_next hl
    have hlen := foldCells_len s.data.toList i
    have hls := low_same s.data.toList[i]
    rw [size_data] at hlen
    have hw : IntKind.i64.wrap ((i : Int) + 1) = ((i + 1 : Nat) : Int) := by rw [wrap_small _ (by omega) (by omega)]; omega
    generalize hcs : foldCells s.data.toList i = cs at *
    generalize hcs' : foldCells s.data.toList (i + 1) = cs' at *
    generalize hb' : s.data.toList[i] = b at *
    have hi'' : (i : Int) < (s.size : Int) := by omega
    by_cases hc : 65 ≤ (b.toNat : Int) ∧ (b.toNat : Int) ≤ 90
    · rw [if_pos hc] at hls
      simp [e3, e4, v3, v4, hb, hi, hg, byteC, hc.1, hc.2, hw]
      exact ⟨by omega, k - 1, by omega, i + 1, by omega, by omega, by rw [hcs', ← hgs]; simp [lowC, hls]⟩
    · rw [if_neg hc] at hls
      simp [e3, e4, v3, v4, hb, hi, hg, byteC, hc, hw]
      exact ⟨⟨by omega, fun h => ⟨h, by omega⟩⟩, k - 1, by omega, i + 1, by omega, by omega, by rw [hcs']; exact hnx (by simp [lowC, byteC, hls])⟩
  · have hie : i = s.size := by omega
    subst hie
    have hcs : foldCells s.data.toList s.size = s.data.toList.map lowC := by
      have h := Nat.le_of_eq (size_data s)
      rw [foldCells, List.take_of_length_le h, List.drop_eq_nil_of_le h, List.map_nil, List.append_nil]
    simp [e3, e4, v3, v4, hb]
    rw [hcs]
    have htk : List.take s.size (s.data.toList.map lowC) = s.data.toList.map lowC := List.take_of_length_le (by simp [size_data])
    refine ⟨⟨by simp [size_data], ?_⟩, ?_⟩
    · rw [htk]
      intro x hx
      obtain ⟨b, _, rfl⟩ := List.mem_map.1 hx
      exact lowI_byte b
    · rw [List.take_of_length_le (by simp [size_data])]
      simp [strOf, foldB, byteOf, lowC, Function.comp_def]
/-! ### Norm: what is not a blank, folded -/
theorem replK_ne (b c : UInt8) (h : b ≠ c) : ∀ (k : Nat) (l : List UInt8), Lib.replaceK [c] [] k (b :: l) = b :: Lib.replaceK [c] [] k l
  | 0, l => rfl
  | k + 1, l => by
    have hp : List.isPrefixOf [c] (b :: l) = false := by
      simp [List.isPrefixOf]; exact fun e => h e.symm
    have hi : Lib.index (b :: l) [c] = if Lib.index l [c] == -1 then -1 else Lib.index l [c] + 1 := by rw [Lib.index, hp]; rfl
    rcases Lib.index_spec l [c] with ⟨h1, _⟩ | ⟨i, h1, _⟩
    · rw [h1] at hi
      unfold Lib.replaceK
      rw [hi, h1]; rfl
    · have hi2 : Lib.index (b :: l) [c] = ((i + 1 : Nat) : Int) := by
        rw [hi, h1, if_neg (by simp)]; push_cast; rfl
      rw [Lib.replaceK_hit _ _ _ _ _ hi2, Lib.replaceK_hit _ _ _ _ _ h1]
      rfl
theorem repl_filter (c : UInt8) : ∀ l : List UInt8, Lib.replaceK [c] [] (Lib.count l [c]) l = l.filter (fun x => !decide (x = c))
  | [] => by cases Lib.count [] [c] <;> rfl
  | b :: l => by
    by_cases h : b = c
    · subst h
      have hi : Lib.index (b :: l) [b] = ((0 : Nat) : Int) := by
        have : List.isPrefixOf [b] (b :: l) = true := by simp [List.isPrefixOf]
        rw [Lib.index, this]; rfl
      rw [Lib.count_cons_eq, Nat.add_comm, Lib.replaceK_hit _ _ _ _ _ hi]
      have ih := repl_filter b l
      simpa using ih
    · rw [Lib.count_cons_ne b c l h, replK_ne b c h, repl_filter c l]
      simp [h]
theorem replAll_filter (c : UInt8) (l : List UInt8) : Lib.replaceAll l [c] [] = l.filter (fun x => !decide (x = c)) := by
  rw [← repl_filter c l]
  unfold Lib.replaceAll Lib.replace Lib.replaceNum
  rw [if_neg (by simp), if_pos (.inl (by decide))]
def lowB (b : UInt8) : UInt8 := UInt8.ofNat (lowI (b.toNat : Int)).toNat
theorem low32_all : (List.range 256).all (fun n => decide ((lowB (UInt8.ofNat n) = 32) ↔ (UInt8.ofNat n = 32))) = true := by kernel_rfl
theorem low32 (b : UInt8) : lowB b = 32 ↔ b = 32 := by
  have := of_decide_eq_true (List.all_eq_true.1 low32_all b.toNat (List.mem_range.2 b.toNat_lt))
  simpa using this
def unblank (l : List UInt8) : List UInt8 := l.filter (fun x => !decide (x = 32))
theorem norm_eq (s : ByteArray) : normB s = foldB ⟨(unblank s.data.toList).toArray⟩ := by
  unfold normB
  rw [replAll_filter]
  show (⟨((s.data.toList.map lowB).filter (fun x => !decide (x = 32))).toArray⟩ : ByteArray) = ⟨((unblank s.data.toList).map lowB).toArray⟩
  congr 2
  unfold unblank
  rw [List.filter_map]
  congr 1
  apply List.filter_congr
  intro x _
  simp [low32 x]
def rfoldS : List A → Option (Prop × A)
  | [.one (.v (.string s))] => some (s.size ≤ 140737488355328, .one (.v (.string (foldB s))))
  | _ => none
theorem rfoldS_ok : ∀ l p r, rfoldS l = some (p, r) → p → AF Tryd.prog (gl0 m) 69 l r := by
  intro l p r h hp
  unfold rfoldS at h
  split at h
  · simp only [Option.some.injEq, Prod.mk.injEq] at h; obtain ⟨rfl, rfl⟩ := h
    exact rfold_AF _ hp
  · cases h
end Go.Proofs.YtbhingdlclfipaaDoor.Ab
