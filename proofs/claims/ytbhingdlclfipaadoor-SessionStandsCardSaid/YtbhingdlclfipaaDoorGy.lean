/- The layer session, part 24: the law SessionStands, walked. -/
import Derived.Test.YtbhingdlclfipaaDoorGx
namespace Go.Proofs.YtbhingdlclfipaaDoor.Ab
open Go Go.RowKit Go.Proofs
set_option linter.unusedVariables false
set_option linter.unusedSimpArgs false
variable {m : Int}
set_option maxRecDepth 100000 in
set_option maxHeartbeats 4000000 in
theorem smallF_AF (l : List Act) (h2 : ∀ a ∈ l, a.Fit) (h3 : l.length ≤ 1125899906842624) :
    AF Tryd.prog (gl0 m) 14 [.one (.sl .full 13 (l.map Act.d))] (.one (.v (.bool (smallP l)))) := by
  refine AF_by (SpOK.cons weightS_ok SpOK.none) mixed F14_ok ?_
  simp [F14]
  have hlen : (l.map Act.d).length = l.length := List.length_map _
  have hget : ∀ (i : Nat) (a : Act), l[i]? = some a → (l.map Act.d)[i]? = some a.d := fun i a h => by rw [List.getElem?_map, h]; rfl
  generalize l.map Act.d = xs at *
  unfold smallP
  generalize htot : smallGo 0 0 l = tot at *
  refine awp_loop (fun k S => ∃ i n, i + k = l.length ∧ n ≤ 5513599627370496 ∧ smallGo n i (l.drop i) = tot ∧ S.env 0 = some (.one (.sl .full 13 xs)) ∧ S.env 3 = some (.one (.v (.int .i64 (n : Nat)))) ∧ S.env 4 = some (.one (.v (.int .i64 (i : Nat)))) ∧ S.va 0 ∧ S.va 3 ∧ S.va 4) ⟨l.length, 0, 0, ?_⟩ ?_
  · refine ⟨by omega, by omega, by simpa using htot, ?_⟩
    simp
  rintro k S ⟨i, n, hik, hn, hg, e0, e3, e4, v0, v3, v4⟩
  by_cases hi : i < l.length
  · have hdrop := List.drop_eq_getElem_cons hi
    have ha2 := h2 l[i] (List.getElem_mem hi)
    have hgi := hget i l[i] (List.getElem?_eq_getElem hi)
    generalize l[i] = a at *
    rw [hdrop] at hg
    unfold smallGo at hg
    by_cases hc : i ≤ 150 ∧ n ≤ 12000
    · obtain ⟨c1, c2⟩ := hc
      rw [if_pos ⟨c1, c2⟩] at hg
      have c1' : (i : Int) ≤ 150 := by omega
      have c2' : (n : Int) ≤ 12000 := by omega
      have hi' : i < xs.length := by omega
      have hle := ha2.le
      have had : a.d = [.v (.int .i64 a.kind), .v (.int .i64 a.n.kind), .v (.string a.n.name), .v (.string a.n.text), .v (.string a.n.data), .v (.int .i64 a.n.code), .v (.int .i64 a.n.status), .v (.int .i64 a.n.idle), .v (.int .i64 a.n.time), .v (.bool a.n.ok), .sl .no 6 a.n.items, .sl .no 1 a.n.codes, .v (.int .i64 a.code)] := rfl
      obtain ⟨its, hits, hio⟩ := ha2.its
      have hal := ha2.len
      have hwt : weightGo 12000 a.n.len its = a.n.weight := by unfold Nt.weight; rw [hits]; rfl
      generalize a.n.weight = w at *
      have w1 : IntKind.i64.wrap ((n : Int) + (w : Int)) = (n : Int) + (w : Int) := wrap_small _ (by omega) (by omega)
      have w7 : IntKind.i64.wrap ((i : Int) + 1) = (i : Int) + 1 := wrap_small _ (by omega) (by omega)
      have hgi' := (List.getElem?_eq_some_iff.1 hgi).2
      simp [e0, e3, e4, v0, v3, v4, hi, hi', hlen, hgi, hgi', c1', c2', had, weightS, Nt.of, hits, hio, hal, hwt, nI, w1, w7]
      refine ⟨k - 1, by omega, i + 1, by omega, n + w, by omega, hg, by push_cast; rfl, by push_cast; rfl⟩
    · rw [if_neg hc] at hg
      have hcc : ¬ ((i : Int) ≤ 150 ∧ (n : Int) ≤ 12000) := by omega
      simp [e0, e3, e4, v0, v3, v4, hi, hlen, hcc]
      subst hg; rw [Bool.eq_iff_iff]; simp; omega
  · have hg' : tot = n := by
      rw [List.drop_eq_nil_of_le (by omega)] at hg; exact hg.symm
    simp [e0, e3, e4, v0, v3, v4, hi, hlen]
    subst hg'; rw [Bool.eq_iff_iff]; simp; omega
def smallFS (l : List Act) : List A → Option (Prop × A)
  | [.one (.sl .full 13 xs)] => some (xs = l.map Act.d, .one (.v (.bool (smallP l))))
  | _ => none
theorem smallFS_ok (l : List Act) (h2 : ∀ a ∈ l, a.Fit) (h3 : l.length ≤ 1125899906842624) : ∀ l' p r, smallFS l l' = some (p, r) → p → AF Tryd.prog (gl0 m) 14 l' r := by
  intro l' p r h hp
  unfold smallFS at h
  split at h
  · simp only [Option.some.injEq, Prod.mk.injEq] at h; obtain ⟨rfl, rfl⟩ := h
    subst hp
    exact smallF_AF l h2 h3
  · cases h
def standsSp (l : List Act) : Sp := spc 14 (smallFS l) (spc 8 liveS (spc 19 doesS (spc 20 modelS (spc 16 ssameS fun _ _ => none))))
theorem standsSp_ok (l : List Act) (h2 : ∀ a ∈ l, a.Fit) (h3 : l.length ≤ 1125899906842624) : SpOK Tryd.prog (gl0 m) (standsSp l) := SpOK.cons (smallFS_ok l h2 h3) (SpOK.cons liveS_ok (SpOK.cons doesS_ok (SpOK.cons modelS_ok (SpOK.cons ssameS_ok SpOK.none))))
set_option maxRecDepth 100000 in
set_option maxHeartbeats 8000000 in
theorem stands_AF (s : Ses) (a : Act) (h1 : s.nm.size ≤ 1125899906842624) (h2 : s.pw.size ≤ 1125899906842624) (hf : a.Fit) (hn : NOK a.n) :
    AF Tryd.prog (gl0 m) 6 [.agg s.d, .agg a.d] (.one (.v (.bool true))) := by
  refine AF_by (standsSp_ok [a] (fun x hx => by rw [List.mem_singleton.1 hx]; exact hf) (by simp)) mixed F6_ok ?_
  have v1 : IntKind.i64.wrap ((s.nm.size : Int) + (s.pw.size : Int)) = (s.nm.size : Int) + (s.pw.size : Int) := wrap_small _ (by omega) (by omega)
  have hsd : ∀ s : Ses, s.d = [.v (.int .i64 s.ph), .v (.string s.nm), .v (.string s.pw), .v (.int .i64 s.st), .v (.int .i64 s.tm), .v (.int .i64 s.ct), .v (.int .i64 s.hd), .v (.int .i64 s.sd), .v (.int .i64 s.cd)] := fun _ => rfl
  have hod : ∀ o : Sd, o.d = [.sl .no 11 (o.notes.map Nt.d), .v (.bool o.fresh), .sl .no 11 (o.up.map Nt.d)] := fun _ => rfl
  have had : a.d = [.v (.int .i64 a.kind), .v (.int .i64 a.n.kind), .v (.string a.n.name), .v (.string a.n.text), .v (.string a.n.data), .v (.int .i64 a.n.code), .v (.int .i64 a.n.status), .v (.int .i64 a.n.idle), .v (.int .i64 a.n.time), .v (.bool a.n.ok), .sl .no 6 a.n.items, .sl .no 1 a.n.codes, .v (.int .i64 a.code)] := rfl
  by_cases c1 : (12000 : Int) < (s.nm.size : Int) + (s.pw.size : Int)
  · simp [F6, hsd, had, standsSp, v1, liveS, smallFS, c1]
  cases hs : smallP [a]
  · simp [F6, hsd, had, standsSp, v1, liveS, smallFS, c1, hs]
  have hs' := hs
  simp only [smallP, decide_eq_true_eq] at hs'
  have hw := smallGo_mem [a] 0 0 (by simp) hs'.2 a (List.mem_singleton.2 rfl)
  have han := Nt.len_le a.n
  simp only [Nt.len] at han
  have s1 : s.nm.size ≤ 1000000 := by omega
  have s2 : s.pw.size ≤ 1000000 := by omega
  have s3 : a.n.name.size ≤ 1000000 := by omega
  have s4 : a.n.data.size ≤ 1000000 := by omega
  have hso := sok_does s a hn
  generalize hq : doesP s a = q at *
  obtain ⟨t, o⟩ := q
  simp only at hso
  have hsdo : SdOK [.sl .no 11 (o.notes.map Nt.d), .v (.bool o.fresh), .sl .no 11 (o.up.map Nt.d)] := ⟨o, rfl, hso⟩
  by_cases c2 : s.hd < 0
  · simp [F6, hsd, hod, had, standsSp, v1, liveS, smallFS, c1, hs, c2, doesS, modelS, Ses.of, Act.of, pairS, hq, ssameS, hsdo, s1, s2, s3, s4]
  by_cases c3 : 1000000 < s.hd
  · simp [F6, hsd, hod, had, standsSp, v1, liveS, smallFS, c1, hs, c2, c3, doesS, modelS, Ses.of, Act.of, pairS, hq, ssameS, hsdo, s1, s2, s3, s4]
  by_cases c4 : s.sd < 0
  · simp [F6, hsd, hod, had, standsSp, v1, liveS, smallFS, c1, hs, c2, c3, c4, doesS, modelS, Ses.of, Act.of, pairS, hq, ssameS, hsdo, s1, s2, s3, s4]
  by_cases c5 : 1000000 < s.sd
  · simp [F6, hsd, hod, had, standsSp, v1, liveS, smallFS, c1, hs, c2, c3, c4, c5, doesS, modelS, Ses.of, Act.of, pairS, hq, ssameS, hsdo, s1, s2, s3, s4]
  simp [F6, hsd, hod, had, standsSp, v1, liveS, smallFS, c1, hs, c2, c3, c4, c5, doesS, modelS, Ses.of, Act.of, pairS, hq, ssameS, hsdo, s1, s2, s3, s4]
end Go.Proofs.YtbhingdlclfipaaDoor.Ab
