/- The layer session, part 6: glyph.Check. -/
import Derived.Test.YtbhingdlclfipaaDoorGe
import Derived.Lib.MapLaws
import Derived.Lib.QuoteLoop
namespace Go.Proofs.YtbhingdlclfipaaDoor.Ab
open Go Go.RowKit Go.Proofs
set_option linter.unusedVariables false
set_option linter.unusedSimpArgs false
variable {m : Int}
/-! ### glyph -/
def nI (c : Int) : A := .one (.v (.int .i64 c))
def widthI (c : Int) : Int := if c < 128 then 1 else if c < 2048 then 2 else if c < 65536 then 3 else 4
theorem width_AF (c : Int) : AF Tryd.prog (gl0 m) 81 [.one (.v (.int .i64 c))] (.one (.v (.int .i64 (widthI c)))) := by
  refine AF_by SpOK.none mixed F81_ok ?_
  simp [F81, widthI]
  repeat' split
  all_goals simp_all
def plainB (c : Int) : Bool := c == 9 || c == 10 || c == 13 || (c != 65534 && c != 65535 && decide (32 ≤ c))
theorem plain_AF (c : Int) : AF Tryd.prog (gl0 m) 71 [.one (.v (.int .i64 c))] (.one (.v (.bool (plainB c)))) := by
  refine AF_by SpOK.none mixed F71_ok ?_
  simp [F71, plainB]
  by_cases h1 : c = 9
  · simp [h1]
  by_cases h2 : c = 10
  · simp [h2]
  by_cases h3 : c = 13
  · simp [h3]
  by_cases h4 : c = 65534
  · simp [h4]
  by_cases h5 : c = 65535
  · simp [h5]
  have e1 : (c == 9) = false := by simpa using h1
  have e2 : (c == 10) = false := by simpa using h2
  have e3 : (c == 13) = false := by simpa using h3
  have e4 : (c != 65534) = true := by simpa using h4
  have e5 : (c != 65535) = true := by simpa using h5
  simp [h1, h2, h3, h4, h5, e1, e2, e3, e4, e5]
def widthS : List A → Option (Prop × A)
  | [.one (.v (.int .i64 c))] => some (True, .one (.v (.int .i64 (widthI c))))
  | _ => none
theorem widthS_ok : ∀ l p r, widthS l = some (p, r) → p → AF Tryd.prog (gl0 m) 81 l r := by
  intro l p r h hp
  unfold widthS at h
  split at h
  · simp only [Option.some.injEq, Prod.mk.injEq] at h; obtain ⟨rfl, rfl⟩ := h
    exact width_AF _
  · cases h
def plainS : List A → Option (Prop × A)
  | [.one (.v (.int .i64 c))] => some (True, .one (.v (.bool (plainB c))))
  | _ => none
theorem plainS_ok : ∀ l p r, plainS l = some (p, r) → p → AF Tryd.prog (gl0 m) 71 l r := by
  intro l p r h hp
  unfold plainS at h
  split at h
  · simp only [Option.some.injEq, Prod.mk.injEq] at h; obtain ⟨rfl, rfl⟩ := h
    exact plain_AF _
  · cases h
def wrongP (s : ByteArray) : Bool := decide (((Utf8.decode s 0).1 : Int) = 65533) && (decide (s.size < 3) || !decide (s.extract 0 3 = ⟨#[239, 191, 189]⟩))
def firstP (s : ByteArray) : Int × Int × Int :=
  if s.size = 0 then (0, 0, 10) else if wrongP s = true then (0, 0, 10) else (((Utf8.decode s 0).1 : Int), widthI (Utf8.decode s 0).1, 0)
def triI (t : Int × Int × Int) : A := .tup [.one (.v (.int .i64 t.1)), .one (.v (.int .i64 t.2.1)), .one (.v (.int .i64 t.2.2))]
theorem decode_lt (s : ByteArray) : (Utf8.decode s 0).1 < 1114112 := by
  have := Go.Lib.rune_valid s
  simp only [Go.Lib.validRune, decide_eq_true_eq] at this
  omega
theorem first_AF (s : ByteArray) (hs : s.size ≤ 1000000) : AF Tryd.prog (gl0 m) 70 [.one (.v (.string s))] (triI (firstP s)) := by
  refine AF_by (SpOK.cons widthS_ok SpOK.none) mixed F70_ok ?_
  simp [F70, widthS]
  refine awp_once ?_
  by_cases h0 : s.size = 0
  · simp [h0, firstP, triI]
  · have hp : 0 < s.size := by omega
    have hd := decode_lt s
    have hw : IntKind.i64.wrap ((Utf8.decode s 0).1 : Int) = ((Utf8.decode s 0).1 : Int) := wrap_small _ (by omega) (by omega)
    simp [hp, hw, widthS]
    refine ⟨fun h => ⟨h, fun h' => ⟨h, h'⟩⟩, ?_⟩
    have hq : wrongP s = true ↔ ((Utf8.decode s 0).1 : Int) = 65533 ∧ ((s.size : Int) < 3 ∨ ¬ s.extract 0 3 = { data := #[239, 191, 189] }) := by
      simp only [wrongP, Bool.and_eq_true, Bool.or_eq_true, decide_eq_true_eq, Bool.not_eq_true', decide_eq_false_iff_not]
      constructor
      · rintro ⟨a, b⟩; exact ⟨a, b.imp (fun h => by omega) id⟩
      · rintro ⟨a, b⟩; exact ⟨a, b.imp (fun h => by omega) id⟩
    rw [firstP, if_neg h0]
    split
    · rename_i h; rw [if_pos (hq.2 h)]; rfl
    · rename_i h; rw [if_neg (fun h' => h (hq.1 h'))]; simp only [triI]
def firstS : List A → Option (Prop × A)
  | [.one (.v (.string s))] => some (s.size ≤ 1000000, triI (firstP s))
  | _ => none
theorem firstS_ok : ∀ l p r, firstS l = some (p, r) → p → AF Tryd.prog (gl0 m) 70 l r := by
  intro l p r h hp
  unfold firstS at h
  split at h
  · simp only [Option.some.injEq, Prod.mk.injEq] at h; obtain ⟨rfl, rfl⟩ := h
    exact first_AF _ hp
  · cases h
/-- A sign that is none too short: its bytes are there. -/
theorem first_width (s : ByteArray) (h : (firstP s).2.2 = 0) : 1 ≤ (firstP s).2.1 ∧ (firstP s).2.1 ≤ s.size := by
  unfold firstP at h ⊢
  by_cases h0 : s.size = 0
  · rw [if_pos h0] at h; cases h
  rw [if_neg h0] at h ⊢
  by_cases hw : wrongP s = true
  · rw [if_pos hw] at h; cases h
  rw [if_neg hw]
  dsimp only
  by_cases h3 : ((Utf8.decode s 0).1 : Int) = 65533
  · have : ¬ s.size < 3 := by
      intro h'; exact hw (by unfold wrongP; rw [decide_eq_true h3, decide_eq_true h']; rfl)
    rw [h3]; have : widthI 65533 = 3 := by decide
    rw [this]; omega
  · have hl := Go.Lib.width_le s (by omega)
    rw [Go.Lib.decode_at] at hl h3 ⊢
    have k0 := (s.get! 0).toNat_lt
    have k1 := (s.get! (0 + 1)).toNat_lt
    have k2 := (s.get! (0 + 2)).toNat_lt
    have k3 := (s.get! (0 + 3)).toNat_lt
    unfold widthI
    rcases Go.Lib.decodeN_shape (s.size - 0) (s.get! 0).toNat (s.get! (0 + 1)).toNat (s.get! (0 + 2)).toNat (s.get! (0 + 3)).toNat with ⟨c, e⟩ | ⟨c1, c2, c3, cv, e⟩ | ⟨c1, c2, c3, c4, cv, cs, e⟩ | ⟨c1, c2, c3, c4, c5, cv, cw, e⟩ | e
    all_goals (rw [e] at hl h3 ⊢; dsimp only at hl h3 ⊢)
    all_goals (try (exact absurd rfl h3))
    all_goals (repeat' split)
    all_goals omega
def lenGo : Nat → Int → ByteArray → Int × Int
  | 0, n, _ => (n, 0)
  | k + 1, n, s => if s.size = 0 then (n, 0) else if (firstP s).2.2 = 0 ∧ plainB (firstP s).1 = true then lenGo k (n + 1) (s.extract (firstP s).2.1.toNat s.size) else (0, 10)
def lenP (s : ByteArray) : Int × Int := lenGo s.size 0 s
def pairI (t : Int × Int) : A := .tup [.one (.v (.int .i64 t.1)), .one (.v (.int .i64 t.2))]
theorem len_AF (s : ByteArray) (hs : s.size ≤ 1000000) : AF Tryd.prog (gl0 m) 59 [.one (.v (.string s))] (pairI (lenP s)) := by
  refine AF_by (SpOK.cons firstS_ok (SpOK.cons plainS_ok SpOK.none)) mixed F59_ok ?_
  simp [F59, firstS, plainS]
  refine awp_loop (fun k S => ∃ (t : ByteArray) (n : Int), t.size ≤ k ∧ n + k ≤ s.size ∧ 0 ≤ n ∧ lenGo k n t = lenP s ∧ S.env 0 = some (.one (.v (.string t))) ∧ S.env 2 = some (.one (.v (.int .i64 n))) ∧ S.va 0 ∧ S.va 2) ⟨s.size, ?_⟩ ?_
  · exact ⟨s, 0, Nat.le_refl _, by omega, Int.le_refl _, rfl, rfl, rfl, trivial, trivial⟩
  rintro k S ⟨t, n, hk, hn, hn0, hl, e0, e2, v0, v2⟩
  by_cases h0 : t.size = 0
  · have ht : t = ⟨#[]⟩ := by
      have : t.data.size = 0 := h0
      cases t; simp_all
    subst ht
    have : lenP s = (n, 0) := by
      rw [← hl]; cases k
      · rfl
      · rw [lenGo, if_pos h0]
    simp [e0, e2, v0, v2, this, pairI]
  · have ht : ¬ t = ⟨#[]⟩ := by rintro rfl; exact h0 rfl
    obtain ⟨k, rfl⟩ : ∃ j, k = j + 1 := ⟨k - 1, by omega⟩
    have hf := first_width t
    have hw : IntKind.i64.wrap (n + 1) = n + 1 := wrap_small _ (by omega) (by omega)
    rw [lenGo, if_neg h0] at hl
    generalize hq : firstP t = q at *
    obtain ⟨c, w, e⟩ := q
    by_cases he : e = 0
    · subst he
      have hf := hf rfl
      by_cases hp : plainB c = true
      · rw [if_pos ⟨rfl, hp⟩] at hl
        simp [e0, e2, v0, v2, ht, firstS, plainS, triI, hq, hp, hw]
        dsimp only at hf
        refine ⟨by omega, ⟨by omega, by omega⟩, k, by omega, t.extract w.toNat t.size, by rw [ByteArray.size_extract]; omega, n + 1, by omega, by omega, hl, rfl, rfl⟩
      · rw [if_neg (fun h => hp h.2)] at hl
        simp [e0, e2, v0, v2, ht, firstS, plainS, triI, hq, hp, hw]
        exact ⟨by omega, by rw [← hl]; rfl⟩
    · rw [if_neg (fun h => he h.1)] at hl
      simp [e0, e2, v0, v2, ht, firstS, plainS, triI, hq, he, hw]
      exact ⟨by omega, by rw [← hl]; rfl⟩
def lenS : List A → Option (Prop × A)
  | [.one (.v (.string s))] => some (s.size ≤ 1000000, pairI (lenP s))
  | _ => none
theorem lenS_ok : ∀ l p r, lenS l = some (p, r) → p → AF Tryd.prog (gl0 m) 59 l r := by
  intro l p r h hp
  unfold lenS at h
  split at h
  · simp only [Option.some.injEq, Prod.mk.injEq] at h; obtain ⟨rfl, rfl⟩ := h
    exact len_AF _ hp
  · cases h
theorem check_AF (s : ByteArray) (hs : s.size ≤ 1000000) : AF Tryd.prog (gl0 m) 39 [.one (.v (.string s))] (nI (lenP s).2) := by
  refine AF_by (SpOK.cons lenS_ok SpOK.none) mixed F39_ok ?_
  simp [F39, lenS, pairI, hs, nI]
def checkS : List A → Option (Prop × A)
  | [.one (.v (.string s))] => some (s.size ≤ 1000000, nI (lenP s).2)
  | _ => none
theorem checkS_ok : ∀ l p r, checkS l = some (p, r) → p → AF Tryd.prog (gl0 m) 39 l r := by
  intro l p r h hp
  unfold checkS at h
  split at h
  · simp only [Option.some.injEq, Prod.mk.injEq] at h; obtain ⟨rfl, rfl⟩ := h
    exact check_AF _ hp
  · cases h
end Go.Proofs.YtbhingdlclfipaaDoor.Ab
