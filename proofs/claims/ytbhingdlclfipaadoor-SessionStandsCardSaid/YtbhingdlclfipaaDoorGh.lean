/- The layer session, part 8: the session's own functions. -/
import Derived.Test.YtbhingdlclfipaaDoorGg
namespace Go.Proofs.YtbhingdlclfipaaDoor.Ab
open Go Go.RowKit Go.Proofs
set_option linter.unusedVariables false
set_option linter.unusedSimpArgs false
variable {m : Int}
structure Ses where
  ph : Int
  nm : ByteArray
  pw : ByteArray
  st : Int
  tm : Int
  ct : Int
  hd : Int
  sd : Int
  cd : Int
def Ses.d (s : Ses) : List D := [.v (.int .i64 s.ph), .v (.string s.nm), .v (.string s.pw), .v (.int .i64 s.st), .v (.int .i64 s.tm), .v (.int .i64 s.ct), .v (.int .i64 s.hd), .v (.int .i64 s.sd), .v (.int .i64 s.cd)]
def Ses.of : List D → Option Ses
  | [.v (.int .i64 ph), .v (.string nm), .v (.string pw), .v (.int .i64 st), .v (.int .i64 tm), .v (.int .i64 ct), .v (.int .i64 hd), .v (.int .i64 sd), .v (.int .i64 cd)] => some ⟨ph, nm, pw, st, tm, ct, hd, sd, cd⟩
  | _ => none
theorem Ses.of_d {cs : List D} {s : Ses} (h : Ses.of cs = some s) : cs = s.d := by
  unfold Ses.of at h
  split at h
  · simp only [Option.some.injEq] at h; subst h; rfl
  · cases h
structure Nt where
  kind : Int
  name : ByteArray
  text : ByteArray
  data : ByteArray
  code : Int
  status : Int
  idle : Int
  time : Int
  ok : Bool
  items : List (List D)
  codes : List (List D)
def Nt.d (n : Nt) : List D := [.v (.int .i64 n.kind), .v (.string n.name), .v (.string n.text), .v (.string n.data), .v (.int .i64 n.code), .v (.int .i64 n.status), .v (.int .i64 n.idle), .v (.int .i64 n.time), .v (.bool n.ok), .sl .no 6 n.items, .sl .no 1 n.codes]
def Nt.of : List D → Option Nt
  | [.v (.int .i64 k), .v (.string n), .v (.string t), .v (.string d), .v (.int .i64 c), .v (.int .i64 s), .v (.int .i64 i), .v (.int .i64 tm), .v (.bool ok), .sl .no 6 items, .sl .no 1 codes] => some ⟨k, n, t, d, c, s, i, tm, ok, items, codes⟩
  | _ => none
theorem Nt.of_d {cs : List D} {c : Nt} (h : Nt.of cs = some c) : cs = c.d := by
  unfold Nt.of at h
  split at h
  · simp only [Option.some.injEq] at h; subst h; rfl
  · cases h
structure Sd where
  notes : List Nt
  fresh : Bool
  up : List Nt
def Sd.d (o : Sd) : List D := [.sl .no 11 (o.notes.map Nt.d), .v (.bool o.fresh), .sl .no 11 (o.up.map Nt.d)]
def noS : Sd := ⟨[], false, []⟩
def no : ByteArray := ⟨#[]⟩
def kTail : ByteArray := ⟨#[65, 79, 76, 32, 73, 110, 115, 116, 97, 110, 116, 32, 77, 101, 115, 115, 101, 110, 103, 101, 114, 32, 40, 83, 77, 41]⟩
def nt (kind : Int) : Nt := ⟨kind, no, no, no, 0, 0, 0, 0, false, [], []⟩
def Ses.under (s : Ses) : Bool := decide (1 ≤ s.ph) && decide (s.ph ≤ 5)
def Ses.over (s : Ses) (code : Int) : Ses := { s with ph := 6, cd := code }
def Ses.says (s : Ses) (ph : Int) : Ses := { s with ph := ph, sd := 0 }
def twoB (n : Int) : Bool := decide (0 ≤ n) && decide (n ≤ 65535)
def pairS (x : Ses × Sd) : A := .tup [.agg x.1.d, .agg x.2.d]
theorem two_AF (n : Int) : AF Tryd.prog (gl0 m) 41 [.one (.v (.int .i64 n))] (.one (.v (.bool (twoB n)))) := by
  refine AF_by SpOK.none mixed F41_ok ?_
  simp [F41, twoB]
theorem under_AF (s : Ses) : AF Tryd.prog (gl0 m) 24 [.agg s.d] (.one (.v (.bool s.under))) := by
  refine AF_by SpOK.none mixed F24_ok ?_
  simp [F24, Ses.d, Ses.under]
theorem over_AF (s : Ses) (c : Int) : AF Tryd.prog (gl0 m) 25 [.agg s.d, .one (.v (.int .i64 c))] (.agg (s.over c).d) := by
  refine AF_by SpOK.none mixed F25_ok ?_
  simp [F25, Ses.d, Ses.over]
theorem says_AF (s : Ses) (p : Int) (xs : List (List D)) : AF Tryd.prog (gl0 m) 26 [.agg s.d, .one (.v (.int .i64 p)), .one (.sl .full 11 xs)] (.tup [.agg (s.says p).d, .agg [.sl .no 11 xs, .v (.bool false), .sl .no 11 []]]) := by
  refine AF_by SpOK.none mixed F26_ok ?_
  simp [F26, Ses.d, Ses.says]
def lastingB (c : Int) : Bool := c == 1 || c == 4 || c == 5 || c == 7 || c == 8 || c == 17
theorem lasting_AF (c : Int) : AF Tryd.prog (gl0 m) 17 [.one (.v (.int .i64 c))] (.one (.v (.bool (lastingB c)))) := by
  refine AF_by SpOK.none mixed F17_ok ?_
  simp [F17]
  by_cases h1 : c = 1
  · subst h1; simp [lastingB]
  by_cases h2 : c = 4
  · subst h2; simp [lastingB]
  by_cases h3 : c = 5
  · subst h3; simp [lastingB]
  by_cases h4 : c = 7
  · subst h4; simp [lastingB]
  by_cases h5 : c = 8
  · subst h5; simp [lastingB]
  by_cases h6 : c = 17
  · subst h6; simp [lastingB]
  simp [lastingB, h1, h2, h3, h4, h5, h6]
def twoS : List A → Option (Prop × A)
  | [.one (.v (.int .i64 n))] => some (True, .one (.v (.bool (twoB n))))
  | _ => none
theorem twoS_ok : ∀ l p r, twoS l = some (p, r) → p → AF Tryd.prog (gl0 m) 41 l r := by
  intro l p r h hp
  unfold twoS at h
  split at h
  · simp only [Option.some.injEq, Prod.mk.injEq] at h; obtain ⟨rfl, rfl⟩ := h
    exact two_AF _
  · cases h
def underS : List A → Option (Prop × A)
  | [.agg cs] => (Ses.of cs).map fun s => (True, .one (.v (.bool s.under)))
  | _ => none
theorem underS_ok : ∀ l p r, underS l = some (p, r) → p → AF Tryd.prog (gl0 m) 24 l r := by
  intro l p r h hp
  unfold underS at h
  split at h
  · obtain ⟨c, hc, h⟩ := map_some h
    simp only [Prod.mk.injEq] at h; obtain ⟨rfl, rfl⟩ := h
    rw [Ses.of_d hc]
    exact under_AF c
  · cases h
def overS : List A → Option (Prop × A)
  | [.agg cs, .one (.v (.int .i64 c))] => (Ses.of cs).map fun s => (True, .agg (s.over c).d)
  | _ => none
theorem overS_ok : ∀ l p r, overS l = some (p, r) → p → AF Tryd.prog (gl0 m) 25 l r := by
  intro l p r h hp
  unfold overS at h
  split at h
  · obtain ⟨c, hc, h⟩ := map_some h
    simp only [Prod.mk.injEq] at h; obtain ⟨rfl, rfl⟩ := h
    rw [Ses.of_d hc]
    exact over_AF c _
  · cases h
def saysS : List A → Option (Prop × A)
  | [.agg cs, .one (.v (.int .i64 p)), .one (.sl .full 11 xs)] => (Ses.of cs).map fun s => (True, .tup [.agg (s.says p).d, .agg [.sl .no 11 xs, .v (.bool false), .sl .no 11 []]])
  | _ => none
theorem saysS_ok : ∀ l p r, saysS l = some (p, r) → p → AF Tryd.prog (gl0 m) 26 l r := by
  intro l p r h hp
  unfold saysS at h
  split at h
  · obtain ⟨c, hc, h⟩ := map_some h
    simp only [Prod.mk.injEq] at h; obtain ⟨rfl, rfl⟩ := h
    rw [Ses.of_d hc]
    exact says_AF c _ _
  · cases h
def sentP (s : Ses) : Ses := if s.under = true then { s with sd := 0 } else s
theorem sent_AF (s : Ses) : AF Tryd.prog (gl0 m) 34 [.agg s.d] (.agg (sentP s).d) := by
  refine AF_by (SpOK.cons underS_ok SpOK.none) mixed F34_ok ?_
  obtain ⟨ph, nm, pw, st, tm, ct, hd, sd, cd⟩ := s
  simp [F34, Ses.d, underS, Ses.of, sentP]
  cases hu : Ses.under ⟨ph, nm, pw, st, tm, ct, hd, sd, cd⟩ <;> simp
def stopP (s : Ses) (c : Int) : Ses × Sd := if s.under = true then ((s.over c).says 6, ⟨[nt 3], false, []⟩) else (s, noS)
theorem stop_AF (s : Ses) (c : Int) : AF Tryd.prog (gl0 m) 30 [.agg s.d, .one (.v (.int .i64 c))] (pairS (stopP s c)) := by
  refine AF_by (SpOK.cons underS_ok (SpOK.cons overS_ok (SpOK.cons saysS_ok SpOK.none))) mixed F30_ok ?_
  obtain ⟨ph, nm, pw, st, tm, ct, hd, sd, cd⟩ := s
  simp [F30, Ses.d, underS, overS, saysS, Ses.of, Ses.over, Ses.says]
  cases hu : Ses.under ⟨ph, nm, pw, st, tm, ct, hd, sd, cd⟩ <;> simp [stopP, hu, pairS, Ses.d, Sd.d, noS, nt, Nt.d, no, Ses.over, Ses.says]
def stopS : List A → Option (Prop × A)
  | [.agg cs, .one (.v (.int .i64 c))] => (Ses.of cs).map fun s => (True, pairS (stopP s c))
  | _ => none
theorem stopS_ok : ∀ l p r, stopS l = some (p, r) → p → AF Tryd.prog (gl0 m) 30 l r := by
  intro l p r h hp
  unfold stopS at h
  split at h
  · obtain ⟨c, hc, h⟩ := map_some h
    simp only [Prod.mk.injEq] at h; obtain ⟨rfl, rfl⟩ := h
    rw [Ses.of_d hc]
    exact stop_AF c _
  · cases h
def inc (n : Int) : Int := IntKind.i64.wrap (n + 1)
def Ses.tick (s : Ses) : Ses := { s with hd := inc s.hd, sd := inc s.sd }
def tickP (s : Ses) : Ses × Sd :=
  if s.under = true then
    if 90 ≤ inc s.hd then ((s.tick.over 200).says 6, ⟨[nt 3], false, [{ nt 3 with code := 200 }]⟩)
    else if 30 ≤ inc s.sd ∧ s.ph = 5 then (s.tick.says s.ph, ⟨[nt 4], false, []⟩)
    else (s.tick, noS)
  else (s, noS)
theorem tick_AF (s : Ses) : AF Tryd.prog (gl0 m) 13 [.agg s.d] (pairS (tickP s)) := by
  refine AF_by (SpOK.cons underS_ok (SpOK.cons overS_ok (SpOK.cons saysS_ok (SpOK.cons stopS_ok SpOK.none)))) mixed F13_ok ?_
  obtain ⟨ph, nm, pw, st, tm, ct, hd, sd, cd⟩ := s
  cases hu : Ses.under ⟨ph, nm, pw, st, tm, ct, hd, sd, cd⟩
  · simp [F13, Ses.d, underS, overS, saysS, stopS, Ses.of, hu, tickP, pairS, Sd.d, noS]
  have hu' : ∀ a b, Ses.under ⟨ph, nm, pw, st, tm, ct, a, b, cd⟩ = true := fun _ _ => hu
  by_cases h90 : 90 ≤ inc hd
  · have h90' := h90
    unfold inc at h90'
    simp [F13, Ses.d, underS, overS, saysS, stopS, Ses.of, hu, hu', h90, h90', tickP, pairS, Sd.d, noS, stopP, Ses.over, Ses.says, Ses.tick, nt, Nt.d, no, inc]
  have h90' := h90
  unfold inc at h90'
  by_cases h30 : 30 ≤ inc sd ∧ ph = 5
  · obtain ⟨h30, rfl⟩ := h30
    have h30' := h30
    unfold inc at h30'
    simp [F13, Ses.d, underS, overS, saysS, stopS, Ses.of, hu, hu', h90, h90', h30, h30', tickP, pairS, Sd.d, noS, stopP, Ses.over, Ses.says, Ses.tick, nt, Nt.d, no, inc]
  · have h30' := h30
    unfold inc at h30'
    simp [F13, Ses.d, underS, overS, saysS, stopS, Ses.of, hu, hu', h90, h90', h30, h30', tickP, pairS, Sd.d, noS, stopP, Ses.over, Ses.says, Ses.tick, nt, Nt.d, no]
    simp [inc]
def saltS : List A → Option (Prop × A)
  | [.one (.v (.string a)), .one (.v (.string b)), .one (.v (.string c))] => some (a.size ≤ 100000000 ∧ b.size ≤ 100000000 ∧ c.size ≤ 100000000, .one (.v (.string (saltP a b c))))
  | _ => none
theorem saltS_ok : ∀ l p r, saltS l = some (p, r) → p → AF Tryd.prog (gl0 m) 27 l r := by
  intro l p r h hp
  unfold saltS at h
  split at h
  · simp only [Option.some.injEq, Prod.mk.injEq] at h; obtain ⟨rfl, rfl⟩ := h
    exact salted_AF m _ _ _ hp.1 hp.2.1 hp.2.2
  · cases h
def sameS : List A → Option (Prop × A)
  | [.one (.v (.string a)), .one (.v (.string b))] => some (a.size ≤ 1000000 ∧ b.size ≤ 1000000, .one (.v (.bool (sameB a b))))
  | _ => none
theorem sameS_ok : ∀ l p r, sameS l = some (p, r) → p → AF Tryd.prog (gl0 m) 28 l r := by
  intro l p r h hp
  unfold sameS at h
  split at h
  · simp only [Option.some.injEq, Prod.mk.injEq] at h; obtain ⟨rfl, rfl⟩ := h
    exact same_AF m _ _ hp.1 hp.2
  · cases h
def passB (k : Int) : Bool := k == 13 || k == 14 || k == 16 || k == 18 || k == 19 || k == 25 || k == 27 || k == 29
def loginN (s : Ses) (n : Nt) : Nt := { nt 7 with name := s.nm, data := saltP n.data s.pw kTail }
def Ses.heard (s : Ses) : Ses := { s with hd := 0 }
def takeP (s : Ses) (n : Nt) : Ses × Sd :=
  if s.under = true then
    if n.kind = 3 then (s.heard.over n.code, ⟨[], false, [n]⟩)
    else if s.ph = 1 ∧ n.kind = 6 then (s.heard.says 2, ⟨[loginN s n], false, []⟩)
    else if s.ph = 2 ∧ n.kind = 8 then
      if sameB n.name s.nm = true then
        if n.code = 0 then (s.heard.says 3, ⟨[{ nt 2 with data := n.data }], true, []⟩)
        else (s.heard.over n.code, ⟨[], false, [{ nt 3 with code := n.code }]⟩)
      else (s.heard, noS)
    else if s.ph = 3 ∧ n.kind = 9 then (s.heard.says 4, ⟨[{ nt 17 with time := s.tm, code := s.ct }], false, []⟩)
    else if s.ph = 4 ∧ (n.kind = 18 ∨ n.kind = 19) then (s.heard.says 5, ⟨[nt 10, { nt 11 with status := s.st }], false, [n]⟩)
    else if s.ph = 5 ∧ passB n.kind = true then (s.heard, ⟨[], false, [n]⟩)
    else (s.heard, noS)
  else (s, noS)
set_option maxRecDepth 100000 in
set_option maxHeartbeats 4000000 in
theorem take_AF (s : Ses) (n : Nt) (h1 : s.nm.size ≤ 1000000) (h2 : s.pw.size ≤ 1000000) (h3 : n.name.size ≤ 1000000) (h4 : n.data.size ≤ 1000000) : AF Tryd.prog (gl0 m) 10 [.agg s.d, .agg n.d] (pairS (takeP s n)) := by
  refine AF_by (SpOK.cons underS_ok (SpOK.cons overS_ok (SpOK.cons saysS_ok (SpOK.cons saltS_ok (SpOK.cons sameS_ok SpOK.none))))) mixed F10_ok ?_
  obtain ⟨ph, nm, pw, st, tm, ct, hd, sd, cd⟩ := s
  obtain ⟨k, xn, xt, xd, xc, xs, xi, xtm, xo, items, codes⟩ := n
  simp only at h1 h2 h3 h4
  cases hu : Ses.under ⟨ph, nm, pw, st, tm, ct, hd, sd, cd⟩
  · have hu' : True := trivial
    simp [F10, Ses.d, Nt.d, underS, overS, saysS, saltS, sameS, Ses.of, hu, hu', takeP, pairS, Sd.d, noS, Ses.over, Ses.says, Ses.heard, nt, no, loginN, kTail, h1, h2, h3, h4]
  have hu' : ∀ a, Ses.under ⟨ph, nm, pw, st, tm, ct, a, sd, cd⟩ = true := fun _ => hu
  have hr := hu
  simp only [Ses.under, Bool.and_eq_true, decide_eq_true_eq] at hr
  by_cases k3 : k = 3
  · subst k3
    simp [F10, Ses.d, Nt.d, underS, overS, saysS, saltS, sameS, Ses.of, hu, hu', takeP, pairS, Sd.d, noS, Ses.over, Ses.says, Ses.heard, nt, no, loginN, kTail, h1, h2, h3, h4]
  have hph : ph = 1 ∨ ph = 2 ∨ ph = 3 ∨ ph = 4 ∨ ph = 5 := by omega
  have s1 : xd.size ≤ 100000000 := by omega
  have s2 : pw.size ≤ 100000000 := by omega
  rcases hph with rfl | rfl | rfl | rfl | rfl
  · by_cases k6 : k = 6
    · subst k6
      simp [F10, Ses.d, Nt.d, underS, overS, saysS, saltS, sameS, Ses.of, hu, hu', takeP, pairS, Sd.d, noS, Ses.over, Ses.says, Ses.heard, nt, no, loginN, kTail, h1, h2, h3, h4, s1, s2]
      exact by decide
    simp [F10, Ses.d, Nt.d, underS, overS, saysS, saltS, sameS, Ses.of, hu, hu', takeP, pairS, Sd.d, noS, Ses.over, Ses.says, Ses.heard, nt, no, loginN, kTail, h1, h2, h3, h4, k3, k6]
  · by_cases k8 : k = 8
    · subst k8
      cases hs : sameB xn nm with
      | false =>
        simp [F10, Ses.d, Nt.d, underS, overS, saysS, saltS, sameS, Ses.of, hu, hu', takeP, pairS, Sd.d, noS, Ses.over, Ses.says, Ses.heard, nt, no, loginN, kTail, h1, h2, h3, h4, hs]
      | true =>
        by_cases c0 : xc = 0
        · subst c0
          simp [F10, Ses.d, Nt.d, underS, overS, saysS, saltS, sameS, Ses.of, hu, hu', takeP, pairS, Sd.d, noS, Ses.over, Ses.says, Ses.heard, nt, no, loginN, kTail, h1, h2, h3, h4, hs]
        simp [F10, Ses.d, Nt.d, underS, overS, saysS, saltS, sameS, Ses.of, hu, hu', takeP, pairS, Sd.d, noS, Ses.over, Ses.says, Ses.heard, nt, no, loginN, kTail, h1, h2, h3, h4, hs, c0]
    simp [F10, Ses.d, Nt.d, underS, overS, saysS, saltS, sameS, Ses.of, hu, hu', takeP, pairS, Sd.d, noS, Ses.over, Ses.says, Ses.heard, nt, no, loginN, kTail, h1, h2, h3, h4, k3, k8]
  · by_cases k9 : k = 9
    · subst k9
      simp [F10, Ses.d, Nt.d, underS, overS, saysS, saltS, sameS, Ses.of, hu, hu', takeP, pairS, Sd.d, noS, Ses.over, Ses.says, Ses.heard, nt, no, loginN, kTail, h1, h2, h3, h4]
    simp [F10, Ses.d, Nt.d, underS, overS, saysS, saltS, sameS, Ses.of, hu, hu', takeP, pairS, Sd.d, noS, Ses.over, Ses.says, Ses.heard, nt, no, loginN, kTail, h1, h2, h3, h4, k3, k9]
  · by_cases k18 : k = 18
    · subst k18
      simp [F10, Ses.d, Nt.d, underS, overS, saysS, saltS, sameS, Ses.of, hu, hu', takeP, pairS, Sd.d, noS, Ses.over, Ses.says, Ses.heard, nt, no, loginN, kTail, h1, h2, h3, h4]
    by_cases k19 : k = 19
    · subst k19
      simp [F10, Ses.d, Nt.d, underS, overS, saysS, saltS, sameS, Ses.of, hu, hu', takeP, pairS, Sd.d, noS, Ses.over, Ses.says, Ses.heard, nt, no, loginN, kTail, h1, h2, h3, h4]
    simp [F10, Ses.d, Nt.d, underS, overS, saysS, saltS, sameS, Ses.of, hu, hu', takeP, pairS, Sd.d, noS, Ses.over, Ses.says, Ses.heard, nt, no, loginN, kTail, h1, h2, h3, h4, k3, k18, k19]
  · simp [F10, Ses.d, Nt.d, underS, overS, saysS, saltS, sameS, Ses.of, hu, hu', h1, h2, h3, h4, k3]
    by_cases q13 : k = 13
    · subst q13; simp [takeP, pairS, Sd.d, Ses.d, Nt.d, noS, Ses.heard, nt, no, hu, passB]
    by_cases q14 : k = 14
    · subst q14; simp [takeP, pairS, Sd.d, Ses.d, Nt.d, noS, Ses.heard, nt, no, hu, passB]
    by_cases q16 : k = 16
    · subst q16; simp [takeP, pairS, Sd.d, Ses.d, Nt.d, noS, Ses.heard, nt, no, hu, passB]
    by_cases q18 : k = 18
    · subst q18; simp [takeP, pairS, Sd.d, Ses.d, Nt.d, noS, Ses.heard, nt, no, hu, passB]
    by_cases q19 : k = 19
    · subst q19; simp [takeP, pairS, Sd.d, Ses.d, Nt.d, noS, Ses.heard, nt, no, hu, passB]
    by_cases q25 : k = 25
    · subst q25; simp [takeP, pairS, Sd.d, Ses.d, Nt.d, noS, Ses.heard, nt, no, hu, passB]
    by_cases q27 : k = 27
    · subst q27; simp [takeP, pairS, Sd.d, Ses.d, Nt.d, noS, Ses.heard, nt, no, hu, passB]
    by_cases q29 : k = 29
    · subst q29; simp [takeP, pairS, Sd.d, Ses.d, Nt.d, noS, Ses.heard, nt, no, hu, passB]
    simp [takeP, pairS, Sd.d, Ses.d, Nt.d, noS, Ses.heard, nt, no, hu, passB, k3, q13, q14, q16, q18, q19, q25, q27, q29]
def takeS : List A → Option (Prop × A)
  | [.agg cs, .agg ns] => (Ses.of cs).bind fun s => (Nt.of ns).map fun n => (s.nm.size ≤ 1000000 ∧ s.pw.size ≤ 1000000 ∧ n.name.size ≤ 1000000 ∧ n.data.size ≤ 1000000, pairS (takeP s n))
  | _ => none
theorem takeS_ok : ∀ l p r, takeS l = some (p, r) → p → AF Tryd.prog (gl0 m) 10 l r := by
  intro l p r h hp
  unfold takeS at h
  split at h
  · obtain ⟨s, hs, h⟩ := bind_some h
    obtain ⟨n, hn, h⟩ := map_some h
    simp only [Prod.mk.injEq] at h; obtain ⟨rfl, rfl⟩ := h
    rw [Ses.of_d hs, Nt.of_d hn]
    exact take_AF s n hp.1 hp.2.1 hp.2.2.1 hp.2.2.2
  · cases h
def tickS : List A → Option (Prop × A)
  | [.agg cs] => (Ses.of cs).map fun s => (True, pairS (tickP s))
  | _ => none
theorem tickS_ok : ∀ l p r, tickS l = some (p, r) → p → AF Tryd.prog (gl0 m) 13 l r := by
  intro l p r h hp
  unfold tickS at h
  split at h
  · obtain ⟨s, hs, h⟩ := map_some h
    simp only [Prod.mk.injEq] at h; obtain ⟨rfl, rfl⟩ := h
    rw [Ses.of_d hs]
    exact tick_AF s
  · cases h
def sentS : List A → Option (Prop × A)
  | [.agg cs] => (Ses.of cs).map fun s => (True, .agg (sentP s).d)
  | _ => none
theorem sentS_ok : ∀ l p r, sentS l = some (p, r) → p → AF Tryd.prog (gl0 m) 34 l r := by
  intro l p r h hp
  unfold sentS at h
  split at h
  · obtain ⟨s, hs, h⟩ := map_some h
    simp only [Prod.mk.injEq] at h; obtain ⟨rfl, rfl⟩ := h
    rw [Ses.of_d hs]
    exact sent_AF s
  · cases h
def lastingS : List A → Option (Prop × A)
  | [.one (.v (.int .i64 c))] => some (True, .one (.v (.bool (lastingB c))))
  | _ => none
theorem lastingS_ok : ∀ l p r, lastingS l = some (p, r) → p → AF Tryd.prog (gl0 m) 17 l r := by
  intro l p r h hp
  unfold lastingS at h
  split at h
  · simp only [Option.some.injEq, Prod.mk.injEq] at h; obtain ⟨rfl, rfl⟩ := h
    exact lasting_AF _
  · cases h
end Go.Proofs.YtbhingdlclfipaaDoor.Ab
