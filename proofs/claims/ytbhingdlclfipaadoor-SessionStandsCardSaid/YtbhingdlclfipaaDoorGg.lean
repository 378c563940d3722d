/- The layer session, part 7: handle.Check. -/
import Derived.Test.YtbhingdlclfipaaDoorGf
namespace Go.Proofs.YtbhingdlclfipaaDoor.Ab
open Go Go.RowKit Go.Proofs
set_option linter.unusedVariables false
set_option linter.unusedSimpArgs false
variable {m : Int}
/-! ### handle -/
def digitB (c : Int) : Bool := decide (48 ≤ c) && decide (c ≤ 57)
def letterB (c : Int) : Bool := decide (97 ≤ Go.bits .or .u8 c 32) && decide (Go.bits .or .u8 c 32 ≤ 122)
theorem digit_AF (c : Int) : AF Tryd.prog (gl0 m) 72 [.one (.v (.int .u8 c))] (.one (.v (.bool (digitB c)))) := by
  refine AF_by SpOK.none mixed F72_ok ?_
  simp [F72, digitB]
theorem letter_AF (c : Int) : AF Tryd.prog (gl0 m) 73 [.one (.v (.int .u8 c))] (.one (.v (.bool (letterB c)))) := by
  refine AF_by SpOK.none mixed F73_ok ?_
  simp [F73, letterB]
def digitS : List A → Option (Prop × A)
  | [.one (.v (.int .u8 c))] => some (True, .one (.v (.bool (digitB c))))
  | _ => none
theorem digitS_ok : ∀ l p r, digitS l = some (p, r) → p → AF Tryd.prog (gl0 m) 72 l r := by
  intro l p r h hp
  unfold digitS at h
  split at h
  · simp only [Option.some.injEq, Prod.mk.injEq] at h; obtain ⟨rfl, rfl⟩ := h
    exact digit_AF _
  · cases h
def letterS : List A → Option (Prop × A)
  | [.one (.v (.int .u8 c))] => some (True, .one (.v (.bool (letterB c))))
  | _ => none
theorem letterS_ok : ∀ l p r, letterS l = some (p, r) → p → AF Tryd.prog (gl0 m) 73 l r := by
  intro l p r h hp
  unfold letterS at h
  split at h
  · simp only [Option.some.injEq, Prod.mk.injEq] at h; obtain ⟨rfl, rfl⟩ := h
    exact letter_AF _
  · cases h
/-- From a place on: all are digits, and the first is no nought. -/
def digitsGo (s : ByteArray) : Nat → Nat → Bool
  | 0, _ => true
  | k + 1, i => digitB (byteAt s i) && !decide (byteAt s 0 = 48) && digitsGo s k (i + 1)
def numberB (s : ByteArray) : Bool := digitsGo s s.size 0 && (decide (5 ≤ (s.size : Int)) && decide ((s.size : Int) ≤ 9))
theorem number_AF (s : ByteArray) (hs : s.size ≤ 1000000) : AF Tryd.prog (gl0 m) 60 [.one (.v (.string s))] (.one (.v (.bool (numberB s)))) := by
  refine AF_by (SpOK.cons digitS_ok SpOK.none) mixed F60_ok ?_
  simp [F60, digitS]
  refine awp_loop (fun k S => ∃ i, i + k = s.size ∧ numberB s = (digitsGo s k i && (decide (5 ≤ (s.size : Int)) && decide ((s.size : Int) ≤ 9))) ∧ S.env 0 = some (.one (.v (.string s))) ∧ S.env 5 = some (.one (.v (.int .i64 s.size))) ∧ S.env 6 = some (.one (.v (.int .i64 i))) ∧ S.va 0 ∧ S.va 5 ∧ S.va 6) ⟨s.size, ?_⟩ ?_
  · exact ⟨0, by omega, rfl, rfl, rfl, rfl, trivial, trivial, trivial⟩
  rintro k S ⟨i, hk, hq, e0, e5, e6, v0, v5, v6⟩
  by_cases hi : i < s.size
  · obtain ⟨k, rfl⟩ : ∃ j, k = j + 1 := ⟨k - 1, by omega⟩
    have hw : IntKind.i64.wrap ((i : Int) + 1) = ((i + 1 : Nat) : Int) := by rw [wrap_small _ (by omega) (by omega)]; omega
    rw [digitsGo] at hq
    have hp : 0 < s.size := by omega
    by_cases hd : digitB (byteAt s i) = true
    · by_cases h0 : byteAt s 0 = 48
      · simp [e0, e5, e6, v0, v5, v6, hi, hd, h0, digitS, hw, hp, hq]
      · simp [e0, e5, e6, v0, v5, v6, hi, hd, h0, digitS, hw, hp]
        exact ⟨k, by omega, i + 1, by omega, by rw [hq, hd, decide_eq_false h0]; rfl, rfl⟩
    · simp [e0, e5, e6, v0, v5, v6, hi, hd, digitS, hw, hp, hq]
  · have hie : i = s.size := by omega
    subst hie
    obtain rfl : k = 0 := by omega
    rw [digitsGo] at hq
    simp [e0, e5, e6, v0, v5, v6, hq]
def numberS : List A → Option (Prop × A)
  | [.one (.v (.string s))] => some (s.size ≤ 1000000, .one (.v (.bool (numberB s))))
  | _ => none
theorem numberS_ok : ∀ l p r, numberS l = some (p, r) → p → AF Tryd.prog (gl0 m) 60 l r := by
  intro l p r h hp
  unfold numberS at h
  split at h
  · simp only [Option.some.injEq, Prod.mk.injEq] at h; obtain ⟨rfl, rfl⟩ := h
    exact number_AF _ hp
  · cases h
def screenGo (s : ByteArray) : Nat → Nat → Int → Bool
  | 0, _, n => decide (n ≤ 1)
  | k + 1, i, n =>
    if byteAt s i = 64 then (if (i : Int) = (s.size : Int) - 1 then false else screenGo s k (i + 1) (n + 1))
    else if byteAt s i = 32 then (if (i : Int) = (s.size : Int) - 1 then false else screenGo s k (i + 1) n)
    else if byteAt s i = 46 then screenGo s k (i + 1) n
    else if letterB (byteAt s i) = true ∨ digitB (byteAt s i) = true then screenGo s k (i + 1) n else false
def screenB (s : ByteArray) : Bool :=
  if ((normB s).size : Int) < 3 then false else if (16 : Int) < s.size then false else if letterB (byteAt s 0) = true then screenGo s s.size 0 0 else false
theorem norm_empty : (normB ⟨#[]⟩).size = 0 := by kernel_rfl
theorem norm_pos (s : ByteArray) (h : ¬ ((normB s).size : Int) < 3) : 0 < s.size := by
  apply Nat.pos_of_ne_zero
  intro h0
  have : s = ⟨#[]⟩ := by
    have : s.data.size = 0 := h0
    cases s; simp_all
  subst this
  rw [norm_empty] at h
  omega
theorem screen_AF (s : ByteArray) (hs : s.size ≤ 1000000) : AF Tryd.prog (gl0 m) 61 [.one (.v (.string s))] (.one (.v (.bool (screenB s)))) := by
  refine AF_by (SpOK.cons (normS_ok m) (SpOK.cons letterS_ok (SpOK.cons digitS_ok SpOK.none))) mixed F61_ok ?_
  have hn := norm_pos s
  by_cases h1 : ((normB s).size : Int) < 3
  · simp [F61, normS, letterS, h1, hs, screenB]
  by_cases h2 : (16 : Int) < s.size
  · simp [F61, normS, letterS, h1, h2, hs, screenB]
  have hp := hn h1
  by_cases h3 : letterB (byteAt s 0) = true
  · have hsc : screenB s = screenGo s s.size 0 0 := by rw [screenB, if_neg h1, if_neg h2, if_pos h3]
    simp [F61, normS, letterS, h1, h2, h3, hs, hp]
    refine awp_loop (fun k S => ∃ (i : Nat) (n : Int), i + k = s.size ∧ 0 ≤ n ∧ n ≤ i ∧ screenB s = screenGo s k i n ∧ S.env 0 = some (.one (.v (.string s))) ∧ S.env 3 = some (.one (.v (.int .i64 n))) ∧ S.env 22 = some (.one (.v (.int .i64 s.size))) ∧ S.env 23 = some (.one (.v (.int .i64 i))) ∧ S.va 0 ∧ S.va 3 ∧ S.va 22 ∧ S.va 23) ⟨s.size, ?_⟩ ?_
    · exact ⟨0, 0, by omega, by omega, by omega, hsc, rfl, rfl, rfl, rfl, trivial, trivial, trivial, trivial⟩
    rintro k S ⟨i, n, hk, hn0, hni, hq, e0, e3, e22, e23, v0, v3, v22, v23⟩
    by_cases hi : i < s.size
    · obtain ⟨k, rfl⟩ : ∃ j, k = j + 1 := ⟨k - 1, by omega⟩
      have hw : IntKind.i64.wrap ((i : Int) + 1) = ((i + 1 : Nat) : Int) := by rw [wrap_small _ (by omega) (by omega)]; omega
      have hw1 : IntKind.i64.wrap (n + 1) = n + 1 := wrap_small _ (by omega) (by omega)
      have hw2 : IntKind.i64.wrap ((s.size : Int) - 1) = (s.size : Int) - 1 := wrap_small _ (by omega) (by omega)
      rw [screenGo] at hq
      by_cases a1 : byteAt s i = 64
      · rw [if_pos a1] at hq
        by_cases b : (i : Int) = (s.size : Int) - 1
        · rw [if_pos b] at hq
          simp [e0, e3, e22, e23, v0, v3, v22, v23, hi, a1, letterS, digitS, hw, hw1, hw2, eq_true b, hq]
        · rw [if_neg b] at hq
          simp [e0, e3, e22, e23, v0, v3, v22, v23, hi, a1, letterS, digitS, hw, hw1, hw2, b]
          exact ⟨k, by omega, i + 1, by omega, n + 1, by omega, by omega, hq, rfl, rfl⟩
      rw [if_neg a1] at hq
      by_cases a2 : byteAt s i = 32
      · rw [if_pos a2] at hq
        by_cases b : (i : Int) = (s.size : Int) - 1
        · rw [if_pos b] at hq
          simp [e0, e3, e22, e23, v0, v3, v22, v23, hi, a1, a2, letterS, digitS, hw, hw1, hw2, eq_true b, hq]
        · rw [if_neg b] at hq
          simp [e0, e3, e22, e23, v0, v3, v22, v23, hi, a1, a2, letterS, digitS, hw, hw1, hw2, b]
          exact ⟨k, by omega, i + 1, by omega, n, by omega, by omega, hq, rfl, rfl⟩
      rw [if_neg a2] at hq
      by_cases a3 : byteAt s i = 46
      · rw [if_pos a3] at hq
        simp [e0, e3, e22, e23, v0, v3, v22, v23, hi, a1, a2, a3, letterS, digitS, hw, hw1, hw2]
        exact ⟨k, by omega, i + 1, by omega, n, by omega, by omega, hq, rfl, rfl⟩
      rw [if_neg a3] at hq
      by_cases a4 : letterB (byteAt s i) = true
      · rw [if_pos (Or.inl a4)] at hq
        simp [e0, e3, e22, e23, v0, v3, v22, v23, hi, a1, a2, a3, a4, letterS, digitS, hw, hw1, hw2]
        exact ⟨k, by omega, i + 1, by omega, n, by omega, by omega, hq, rfl, rfl⟩
      by_cases a5 : digitB (byteAt s i) = true
      · rw [if_pos (Or.inr a5)] at hq
        simp [e0, e3, e22, e23, v0, v3, v22, v23, hi, a1, a2, a3, a4, a5, letterS, digitS, hw, hw1, hw2]
        exact ⟨k, by omega, i + 1, by omega, n, by omega, by omega, hq, rfl, rfl⟩
      rw [if_neg (by intro h; exact h.elim a4 a5)] at hq
      simp [e0, e3, e22, e23, v0, v3, v22, v23, hi, a1, a2, a3, a4, a5, letterS, digitS, hw, hw1, hw2, hq]
    · have hie : i = s.size := by omega
      subst hie
      obtain rfl : k = 0 := by omega
      rw [screenGo] at hq
      simp [e0, e3, e22, e23, v0, v3, v22, v23, hq]
  · simp [F61, normS, letterS, h1, h2, h3, hs, screenB, hp]
def screenS : List A → Option (Prop × A)
  | [.one (.v (.string s))] => some (s.size ≤ 1000000, .one (.v (.bool (screenB s))))
  | _ => none
theorem screenS_ok : ∀ l p r, screenS l = some (p, r) → p → AF Tryd.prog (gl0 m) 61 l r := by
  intro l p r h hp
  unfold screenS at h
  split at h
  · simp only [Option.some.injEq, Prod.mk.injEq] at h; obtain ⟨rfl, rfl⟩ := h
    exact screen_AF _ hp
  · cases h
def handleB (s : ByteArray) : Bool := numberB s || screenB s
theorem handle_AF (s : ByteArray) (hs : s.size ≤ 1000000) : AF Tryd.prog (gl0 m) 40 [.one (.v (.string s))] (nI (if handleB s = true then 0 else 40)) := by
  refine AF_by (SpOK.cons numberS_ok (SpOK.cons screenS_ok SpOK.none)) mixed F40_ok ?_
  by_cases h1 : numberB s = true
  · simp [F40, numberS, screenS, hs, h1, handleB, nI]
  by_cases h2 : screenB s = true
  · simp [F40, numberS, screenS, hs, h1, h2, handleB, nI]
  simp [F40, numberS, screenS, hs, h1, h2, handleB, nI]
def handleS : List A → Option (Prop × A)
  | [.one (.v (.string s))] => some (s.size ≤ 1000000, nI (if handleB s = true then 0 else 40))
  | _ => none
theorem handleS_ok : ∀ l p r, handleS l = some (p, r) → p → AF Tryd.prog (gl0 m) 40 l r := by
  intro l p r h hp
  unfold handleS at h
  split at h
  · simp only [Option.some.injEq, Prod.mk.injEq] at h; obtain ⟨rfl, rfl⟩ := h
    exact handle_AF _ hp
  · cases h
end Go.Proofs.YtbhingdlclfipaaDoor.Ab
