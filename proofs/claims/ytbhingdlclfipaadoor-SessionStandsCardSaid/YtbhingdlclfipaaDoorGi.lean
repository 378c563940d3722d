/- The layer session, part 9: who comes in. -/
import Derived.Test.YtbhingdlclfipaaDoorGh
namespace Go.Proofs.YtbhingdlclfipaaDoor.Ab
open Go Go.RowKit Go.Proofs
set_option linter.unusedVariables false
set_option linter.unusedSimpArgs false
variable {m : Int}
def secretB (pw : ByteArray) : Bool := decide (¬ pw = ⟨#[]⟩) && (decide ((pw.size : Int) ≤ 16) && decide ((lenP pw).2 = 0))
def startB (name pw : ByteArray) (st tm ct : Int) : Bool := handleB name && (secretB pw && (twoB st && (twoB ct && (decide (0 ≤ tm) && decide (tm ≤ 4294967295)))))
def zeroSes : Ses := ⟨0, no, no, 0, 0, 0, 0, 0, 0⟩
def startP (name pw : ByteArray) (st tm ct : Int) : Ses × Sd × Int :=
  if startB name pw st tm ct = true then (⟨1, name, pw, st, tm, ct, 0, 0, 0⟩, ⟨[nt 1, { nt 5 with name := name }], true, []⟩, 0) else (zeroSes, noS, 2)
def triS (x : Ses × Sd × Int) : A := .tup [.agg x.1.d, .agg x.2.1.d, .one (.v (.int .i64 x.2.2))]
set_option maxHeartbeats 4000000 in
theorem start_AF (name pw : ByteArray) (st tm ct : Int) (h1 : name.size ≤ 1000000) (h2 : pw.size ≤ 1000000) : AF Tryd.prog (gl0 m) 21 [.one (.v (.string name)), .one (.v (.string pw)), nI st, nI tm, nI ct] (triS (startP name pw st tm ct)) := by
  refine AF_by (SpOK.cons checkS_ok (SpOK.cons handleS_ok (SpOK.cons twoS_ok SpOK.none))) mixed F21_ok ?_
  have fin : startB name pw st tm ct = false → startP name pw st tm ct = (zeroSes, noS, 2) := fun h => by simp [startP, h]
  have hsec : secretB pw = (decide (¬ pw = ⟨#[]⟩) && (decide ((pw.size : Int) ≤ 16) && decide ((lenP pw).2 = 0))) := rfl
  by_cases ha : pw = ⟨#[]⟩
  · have hs : secretB pw = false := by rw [hsec, decide_eq_false (by simpa using ha)]; rfl
    rw [fin (by rw [startB, hs]; simp)]
    cases hh : handleB name <;> simp [F21, checkS, handleS, twoS, h1, h2, nI, triS, zeroSes, noS, Sd.d, Ses.d, no, ha, hh]
  by_cases hb : (pw.size : Int) ≤ 16
  case neg =>
    have hs : secretB pw = false := by rw [hsec, decide_eq_false hb]; simp
    rw [fin (by rw [startB, hs]; simp)]
    cases hh : handleB name <;> simp [F21, checkS, handleS, twoS, h1, h2, nI, triS, zeroSes, noS, Sd.d, Ses.d, no, ha, hb, hh]
  by_cases hc : (lenP pw).2 = 0
  case neg =>
    have hs : secretB pw = false := by rw [hsec, decide_eq_false hc]; simp
    rw [fin (by rw [startB, hs]; simp)]
    cases hh : handleB name <;> simp [F21, checkS, handleS, twoS, h1, h2, nI, triS, zeroSes, noS, Sd.d, Ses.d, no, ha, hb, hc, hh]
  have hs : secretB pw = true := by rw [hsec, decide_eq_true ha, decide_eq_true hb, decide_eq_true hc]; rfl
  cases hh : handleB name
  · rw [fin (by rw [startB, hh]; rfl)]
    simp [F21, checkS, handleS, twoS, h1, h2, nI, triS, zeroSes, noS, Sd.d, Ses.d, no, ha, hb, hc, hh]
  cases h3 : twoB st
  · rw [fin (by rw [startB, h3]; simp)]
    simp [F21, checkS, handleS, twoS, h1, h2, nI, triS, zeroSes, noS, Sd.d, Ses.d, no, ha, hb, hc, hh, h3]
  cases h4 : twoB ct
  · rw [fin (by rw [startB, h4]; simp)]
    simp [F21, checkS, handleS, twoS, h1, h2, nI, triS, zeroSes, noS, Sd.d, Ses.d, no, ha, hb, hc, hh, h3, h4]
  by_cases h5 : tm < 0
  · rw [fin (by rw [startB, decide_eq_false (show ¬ 0 ≤ tm by omega)]; simp)]
    simp [F21, checkS, handleS, twoS, h1, h2, nI, triS, zeroSes, noS, Sd.d, Ses.d, no, ha, hb, hc, hh, h3, h4, h5]
  by_cases h6 : 4294967295 < tm
  · rw [fin (by rw [startB, decide_eq_false (show ¬ tm ≤ 4294967295 by omega)]; simp)]
    simp [F21, checkS, handleS, twoS, h1, h2, nI, triS, zeroSes, noS, Sd.d, Ses.d, no, ha, hb, hc, hh, h3, h4, h5, h6]
  have hg : startB name pw st tm ct = true := by rw [startB, hh, hs, h3, h4, decide_eq_true (show 0 ≤ tm by omega), decide_eq_true (show tm ≤ 4294967295 by omega)]; rfl
  rw [startP, if_pos hg]
  simp [F21, checkS, handleS, twoS, h1, h2, nI, triS, zeroSes, noS, Sd.d, Ses.d, no, ha, hb, hc, hh, h3, h4, h5, h6, nt, Nt.d]
def startS : List A → Option (Prop × A)
  | [.one (.v (.string a)), .one (.v (.string b)), .one (.v (.int .i64 st)), .one (.v (.int .i64 tm)), .one (.v (.int .i64 ct))] => some (a.size ≤ 1000000 ∧ b.size ≤ 1000000, triS (startP a b st tm ct))
  | _ => none
theorem startS_ok : ∀ l p r, startS l = some (p, r) → p → AF Tryd.prog (gl0 m) 21 l r := by
  intro l p r h hp
  unfold startS at h
  split at h
  · simp only [Option.some.injEq, Prod.mk.injEq] at h; obtain ⟨rfl, rfl⟩ := h
    exact start_AF _ _ _ _ _ hp.1 hp.2
  · cases h
structure Bg where
  nm : ByteArray
  pw : ByteArray
  st : Int
  tm : Int
  ct : Int
def Bg.d (b : Bg) : List D := [.v (.string b.nm), .v (.string b.pw), .v (.int .i64 b.st), .v (.int .i64 b.tm), .v (.int .i64 b.ct)]
def Bg.of : List D → Option Bg
  | [.v (.string a), .v (.string b), .v (.int .i64 st), .v (.int .i64 tm), .v (.int .i64 ct)] => some ⟨a, b, st, tm, ct⟩
  | _ => none
theorem Bg.of_d {cs : List D} {c : Bg} (h : Bg.of cs = some c) : cs = c.d := by
  unfold Bg.of at h
  split at h
  · simp only [Option.some.injEq] at h; subst h; rfl
  · cases h
def Bg.start (b : Bg) : Ses × Sd × Int := startP b.nm b.pw b.st b.tm b.ct
def numS : List A → Option (Prop × A)
  | [.one (.v (.int .i64 n))] => some (True, nI n)
  | _ => none
theorem numS_ok : ∀ l p r, numS l = some (p, r) → p → AF Tryd.prog (gl0 m) 23 l r := by
  intro l p r h hp
  unfold numS at h
  split at h
  · simp only [Option.some.injEq, Prod.mk.injEq] at h; obtain ⟨rfl, rfl⟩ := h
    refine AF_by SpOK.none mixed F23_ok ?_
    simp [F23, nI]
  · cases h
theorem begin_AF (b : Bg) (h1 : b.nm.size ≤ 1000000) (h2 : b.pw.size ≤ 1000000) : AF Tryd.prog (gl0 m) 9 [.agg b.d] (triS b.start) := by
  refine AF_by (SpOK.cons startS_ok (SpOK.cons numS_ok SpOK.none)) mixed F9_ok ?_
  obtain ⟨nm, pw, st, tm, ct⟩ := b
  simp only at h1 h2
  simp only [Bg.start]
  generalize hq : startP nm pw st tm ct = q
  obtain ⟨s, o, e⟩ := q
  simp [F9, Bg.d, startS, numS, nI, triS, hq, h1, h2, Ses.d, Sd.d]
def beginS : List A → Option (Prop × A)
  | [.agg cs] => (Bg.of cs).map fun b => (b.nm.size ≤ 1000000 ∧ b.pw.size ≤ 1000000, triS b.start)
  | _ => none
theorem beginS_ok : ∀ l p r, beginS l = some (p, r) → p → AF Tryd.prog (gl0 m) 9 l r := by
  intro l p r h hp
  unfold beginS at h
  split at h
  · obtain ⟨b, hb, h⟩ := map_some h
    simp only [Prod.mk.injEq] at h; obtain ⟨rfl, rfl⟩ := h
    rw [Bg.of_d hb]
    exact begin_AF b hp.1 hp.2
  · cases h
/-- One that takes a note, and what it says left away. -/
theorem took_AF (s : Ses) (n : Nt) (h1 : s.nm.size ≤ 1000000) (h2 : s.pw.size ≤ 1000000) (h3 : n.name.size ≤ 1000000) (h4 : n.data.size ≤ 1000000) : AF Tryd.prog (gl0 m) 22 [.agg s.d, .agg n.d] (.agg (takeP s n).1.d) := by
  refine AF_by (SpOK.cons takeS_ok SpOK.none) mixed F22_ok ?_
  generalize hq : takeP s n = q
  obtain ⟨t, o⟩ := q
  obtain ⟨ph, nm, pw, st, tm, ct, hd, sd, cd⟩ := s
  obtain ⟨k, xn, xt, xd, xc, xs, xi, xtm, xo, items, codes⟩ := n
  simp only at h1 h2 h3 h4
  simp [F22, Ses.d, Nt.d, takeS, Ses.of, Nt.of, pairS, hq, h1, h2, h3, h4, Sd.d]
def tookS : List A → Option (Prop × A)
  | [.agg cs, .agg ns] => (Ses.of cs).bind fun s => (Nt.of ns).map fun n => (s.nm.size ≤ 1000000 ∧ s.pw.size ≤ 1000000 ∧ n.name.size ≤ 1000000 ∧ n.data.size ≤ 1000000, .agg (takeP s n).1.d)
  | _ => none
theorem tookS_ok : ∀ l p r, tookS l = some (p, r) → p → AF Tryd.prog (gl0 m) 22 l r := by
  intro l p r h hp
  unfold tookS at h
  split at h
  · obtain ⟨s, hs, h⟩ := bind_some h
    obtain ⟨n, hn, h⟩ := map_some h
    simp only [Prod.mk.injEq] at h; obtain ⟨rfl, rfl⟩ := h
    rw [Ses.of_d hs, Nt.of_d hn]
    exact took_AF s n hp.1 hp.2.1 hp.2.2.1 hp.2.2.2
  · cases h
def liveSp : Sp := spc 21 startS (spc 22 tookS (spc 10 takeS (spc 17 lastingS (spc 23 numS fun _ _ => none))))
theorem liveSp_ok : SpOK Tryd.prog (gl0 m) liveSp := SpOK.cons startS_ok (SpOK.cons tookS_ok (SpOK.cons takeS_ok (SpOK.cons lastingS_ok (SpOK.cons numS_ok SpOK.none))))
end Go.Proofs.YtbhingdlclfipaaDoor.Ab
