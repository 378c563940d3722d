/- The layer session, part 1: glyph.Fold, handle.Norm, handle.Same. -/
import Derived.Test.YtbhingdlclfipaaDoorIr
import Derived.Test.YtbhingdlclfipaaDoorShelf
namespace Go.Proofs.YtbhingdlclfipaaDoor.Ab
open Go Go.RowKit Go.Proofs
set_option linter.unusedVariables false
set_option linter.unusedSimpArgs false
theorem mixed : Tryd.prog.follows .mixedOrders = true := by kernel_rfl
def gl0 (m : Int) : List (Nat × Nat × Value) := [(0, 0, .int .i64 m)]

/-! ### glyph.Fold -/
def lowI (c : Int) : Int := if IntKind.wrap .u8 (c - 65) < 26 then Go.bits .or .u8 c 32 else c
def byteC (b : UInt8) : D := .v (.int .u8 (b.toNat : Int))
def lowC (b : UInt8) : D := .v (.int .u8 (lowI (b.toNat : Int)))
def foldB (s : ByteArray) : ByteArray := ⟨(s.data.toList.map fun b => UInt8.ofNat (lowI (b.toNat : Int)).toNat).toArray⟩
theorem lowI_all : (List.range 256).all (fun n => decide (0 ≤ lowI (n : Int) ∧ lowI (n : Int) ≤ 255)) = true := by kernel_rfl
theorem lowI_byte (b : UInt8) : 0 ≤ lowI (b.toNat : Int) ∧ lowI (b.toNat : Int) ≤ 255 :=
  of_decide_eq_true (List.all_eq_true.1 lowI_all b.toNat (List.mem_range.2 b.toNat_lt))
def foldCells (l : List UInt8) (i : Nat) : List D := (l.take i).map lowC ++ (l.drop i).map byteC
theorem foldCells_len (l : List UInt8) (i : Nat) : (foldCells l i).length = l.length := by simp [foldCells]; omega
theorem foldCells_get {l : List UInt8} {i : Nat} (h : i < l.length) : (foldCells l i)[i]? = some (byteC l[i]) := by
  simp [foldCells, List.getElem?_append_right, h, Nat.min_eq_left (Nat.le_of_lt h)]
theorem foldCells_set {l : List UInt8} {i : Nat} (h : i < l.length) : (foldCells l i).set i (lowC l[i]) = foldCells l (i + 1) := by
  have e : ((l.take i).map lowC).length = i := by simp; omega
  unfold foldCells
  rw [List.set_append_right _ _ (by omega), e, Nat.sub_self, List.take_succ_eq_append_getElem h, List.drop_eq_getElem_cons h]
  simp only [List.map_cons, List.set_cons_zero, List.map_append, List.map_nil, List.append_assoc, List.singleton_append]
theorem foldCells_next {l : List UInt8} {i : Nat} (h : i < l.length) (hl : lowC l[i] = byteC l[i]) : foldCells l i = foldCells l (i + 1) := by
  rw [← foldCells_set h, hl]
  apply List.ext_getElem?
  intro j
  rw [List.getElem?_set]
  split
  · rename_i hj; subst hj
    rw [foldCells_get h, if_pos (by rw [foldCells_len]; exact h)]
  · rfl
theorem size_data (s : ByteArray) : s.data.toList.length = s.size := by rw [Array.length_toList]; rfl
theorem fold_AF (m : Int) (s : ByteArray) (hs : s.size ≤ 140737488355328) : AF Tryd.prog (gl0 m) 67 [.one (.v (.string s))] (.one (.v (.string (foldB s)))) := by
  refine AF_by SpOK.none mixed F67_ok ?_
  simp [F67]
  refine ⟨hs, ?_⟩
  refine awp_loop (fun k S => ∃ i, i + k = s.size ∧ S.env 3 = some (.one (.rs 2 0 s.size)) ∧ S.env 8 = some (.one (.rs 2 0 s.size)) ∧ S.env 9 = some (.one (.v (.int .i64 s.size))) ∧ S.env 10 = some (.one (.v (.int .i64 i))) ∧
    S.va 3 ∧ S.va 8 ∧ S.va 9 ∧ S.va 10 ∧ S.bx 2 = some (.cells 5 (foldCells s.data.toList i)) ∧ 2 < S.nx) ⟨s.size, 0, ?_⟩ ?_
  · have : (bytesD s).flatten = foldCells s.data.toList 0 := by rw [flatten_bytesD]; rfl
    simp [this]
  rintro k S ⟨i, hik, e3, e8, e9, e10, v3, v8, v9, v10, hb, hn⟩
  by_cases hi : i < s.size
  · have hl : i < s.data.toList.length := by rw [size_data]; exact hi
    have hg := foldCells_get hl
    have hgs := foldCells_set hl
    have hnx := foldCells_next hl
    have hlen := foldCells_len s.data.toList i
    rw [size_data] at hlen
    have hw : IntKind.i64.wrap ((i : Int) + 1) = ((i + 1 : Nat) : Int) := by rw [wrap_small _ (by omega) (by omega)]; omega
    generalize hcs : foldCells s.data.toList i = cs at *
    generalize hcs' : foldCells s.data.toList (i + 1) = cs' at *
    generalize hb' : s.data.toList[i] = b at *
    simp [e3, e8, e9, e10, v3, v8, v9, v10, hb, hi, hg, byteC]
    refine ⟨by omega, ?_⟩
    split
    · rename_i h
      exact ⟨by omega, k - 1, by omega, i + 1, by omega, hw, by rw [hcs', ← hgs]; simp [lowC, lowI, h]⟩
    · rename_i h
      refine ⟨k - 1, by omega, i + 1, by omega, hw, ?_⟩
      rw [hcs', hnx]; simp [lowC, byteC, lowI, h]
  · have hie : i = s.size := by omega
    subst hie
    have hcs : foldCells s.data.toList s.size = s.data.toList.map lowC := by
      have h := Nat.le_of_eq (size_data s)
      rw [foldCells, List.take_of_length_le h, List.drop_eq_nil_of_le h, List.map_nil, List.append_nil]
    simp [e3, e8, e9, e10, v3, v8, v9, v10, hb]
    rw [hcs]
    have htk : List.take s.size (s.data.toList.map lowC) = s.data.toList.map lowC := List.take_of_length_le (by simp [size_data])
    refine ⟨⟨by simp [size_data], ?_⟩, ?_⟩
    · rw [htk]
      intro x hx
      obtain ⟨b, _, rfl⟩ := List.mem_map.1 hx
      exact lowI_byte b
    · rw [List.take_of_length_le (by simp [size_data])]
      simp [strOf, foldB, byteOf, lowC, Function.comp_def]

/-! ### handle.Norm, handle.Same -/
def normB (s : ByteArray) : ByteArray := ⟨(Lib.replaceAll (foldB s).data.toList [32] []).toArray⟩
theorem foldB_size (s : ByteArray) : (foldB s).size = s.size := by
  rw [← size_data, ← size_data]
  simp only [foldB, List.length_map]
theorem repl_AF (m : Int) (s : ByteArray) (hs : s.size ≤ 1000000) : AF Tryd.prog (gl0 m) 66 [.one (.v (.string s)), .one (.v (.string ⟨#[32]⟩)), .one (.v (.string ⟨#[]⟩))] (.one (.v (.string ⟨(Lib.replaceAll s.data.toList [32] []).toArray⟩))) :=
  AF_lib [.string s, .string ⟨#[32]⟩, .string ⟨#[]⟩] _ rfl fun w hw => Tryd.strings_ReplaceAll s ⟨#[32]⟩ ⟨#[]⟩ m w (by omega) (hw (0, 0, .int .i64 m) (by simp [gl0])) (by decide) (by
    have : (⟨#[]⟩ : ByteArray).size = 0 := rfl
    rw [this]; omega)
def foldS : List A → Option (Prop × A)
  | [.one (.v (.string s))] => some (s.size ≤ 1000000, .one (.v (.string (foldB s))))
  | _ => none
def replS : List A → Option (Prop × A)
  | [.one (.v (.string s)), .one (.v (.string ⟨⟨[32]⟩⟩)), .one (.v (.string ⟨⟨[]⟩⟩))] => some (s.size ≤ 1000000, .one (.v (.string ⟨(Lib.replaceAll s.data.toList [32] []).toArray⟩)))
  | _ => none
theorem foldS_ok (m : Int) : ∀ l p r, foldS l = some (p, r) → p → AF Tryd.prog (gl0 m) 67 l r := by
  intro l p r h hp
  unfold foldS at h
  split at h
  · simp only [Option.some.injEq, Prod.mk.injEq] at h; obtain ⟨rfl, rfl⟩ := h
    exact fold_AF m _ (by omega)
  · cases h
theorem replS_ok (m : Int) : ∀ l p r, replS l = some (p, r) → p → AF Tryd.prog (gl0 m) 66 l r := by
  intro l p r h hp
  unfold replS at h
  split at h
  · simp only [Option.some.injEq, Prod.mk.injEq] at h; obtain ⟨rfl, rfl⟩ := h
    exact repl_AF m _ hp
  · cases h
theorem norm_AF (m : Int) (s : ByteArray) (hs : s.size ≤ 1000000) : AF Tryd.prog (gl0 m) 43 [.one (.v (.string s))] (.one (.v (.string (normB s)))) := by
  refine AF_by (SpOK.cons (foldS_ok m) (SpOK.cons (replS_ok m) SpOK.none)) mixed F43_ok ?_
  simp [F43, foldS, replS, foldB_size, hs, normB]
def normS : List A → Option (Prop × A)
  | [.one (.v (.string s))] => some (s.size ≤ 1000000, .one (.v (.string (normB s))))
  | _ => none
theorem normS_ok (m : Int) : ∀ l p r, normS l = some (p, r) → p → AF Tryd.prog (gl0 m) 43 l r := by
  intro l p r h hp
  unfold normS at h
  split at h
  · simp only [Option.some.injEq, Prod.mk.injEq] at h; obtain ⟨rfl, rfl⟩ := h
    exact norm_AF m _ hp
  · cases h
def sameB (a b : ByteArray) : Bool := decide (normB a = normB b)
theorem same_AF (m : Int) (a b : ByteArray) (ha : a.size ≤ 1000000) (hb : b.size ≤ 1000000) : AF Tryd.prog (gl0 m) 28 [.one (.v (.string a)), .one (.v (.string b))] (.one (.v (.bool (sameB a b)))) := by
  refine AF_by (SpOK.cons (normS_ok m) SpOK.none) mixed F28_ok ?_
  simp [F28, normS, ha, hb, sameB]
end Go.Proofs.YtbhingdlclfipaaDoor.Ab
