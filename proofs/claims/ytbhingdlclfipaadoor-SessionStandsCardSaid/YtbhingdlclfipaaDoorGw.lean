/- The layer session, part 22: the document's Take. -/
import Derived.Test.YtbhingdlclfipaaDoorGv
namespace Go.Proofs.YtbhingdlclfipaaDoor.Ab
open Go Go.RowKit Go.Proofs
set_option linter.unusedVariables false
set_option linter.unusedSimpArgs false
variable {m : Int}
set_option maxRecDepth 100000 in
set_option maxHeartbeats 8000000 in
theorem rtake_AF (s : Ses) (n : Nt) (h1 : s.nm.size ≤ 1000000) (h2 : s.pw.size ≤ 1000000) (h3 : n.name.size ≤ 1000000) (h4 : n.data.size ≤ 1000000) : AF Tryd.prog (gl0 m) 35 [.agg s.d, .agg n.d] (pairS (takeP s n)) := by
  refine AF_by (SpOK.cons runderS_ok (SpOK.cons rpassS_ok (SpOK.cons rnormS_ok (SpOK.cons rsaltS_ok SpOK.none)))) mixed F35_ok ?_
  obtain ⟨ph, nm, pw, st, tm, ct, hd, sd, cd⟩ := s
  obtain ⟨k, xn, xt, xd, xc, xs, xi, xtm, xo, items, codes⟩ := n
  simp only at h1 h2 h3 h4
  cases hu : Ses.under ⟨ph, nm, pw, st, tm, ct, hd, sd, cd⟩
  · have hu' : True := trivial
    simp [F35, Ses.d, Nt.d, runderS, rpassS, rnormS, rsaltS, Ses.of, hu, hu', takeP, pairS, Sd.d, noS, Ses.over, Ses.says, Ses.heard, nt, no, loginN, kTail, h1, h2, h3, h4]
  have hu' : ∀ a, Ses.under ⟨ph, nm, pw, st, tm, ct, a, sd, cd⟩ = true := fun _ => hu
  have hr := hu
  simp only [Ses.under, Bool.and_eq_true, decide_eq_true_eq] at hr
  have s1 : xd.size ≤ 100000000 := by omega
  have s2 : pw.size ≤ 100000000 := by omega
  by_cases k3 : k = 3
  · subst k3
    simp [F35, Ses.d, Nt.d, runderS, rpassS, rnormS, rsaltS, Ses.of, hu, hu', takeP, pairS, Sd.d, noS, Ses.over, Ses.says, Ses.heard, nt, no, loginN, kTail, h1, h2, h3, h4, s1, s2]
  have hph : ph = 1 ∨ ph = 2 ∨ ph = 3 ∨ ph = 4 ∨ ph = 5 := by omega
  rcases hph with rfl | rfl | rfl | rfl | rfl
  · by_cases k6 : k = 6
    · subst k6
      simp [F35, Ses.d, Nt.d, runderS, rpassS, rnormS, rsaltS, Ses.of, hu, hu', takeP, pairS, Sd.d, noS, Ses.over, Ses.says, Ses.heard, nt, no, loginN, kTail, h1, h2, h3, h4, s1, s2]
    simp [F35, Ses.d, Nt.d, runderS, rpassS, rnormS, rsaltS, Ses.of, hu, hu', takeP, pairS, Sd.d, noS, Ses.over, Ses.says, Ses.heard, nt, no, loginN, kTail, h1, h2, h3, h4, k3, k6, s1, s2]
  · by_cases k8 : k = 8
    · subst k8
      by_cases hn : normB xn = normB nm
      · have hs : sameB xn nm = true := by simp [sameB, hn]
        by_cases c0 : xc = 0
        · subst c0
          simp [F35, Ses.d, Nt.d, runderS, rpassS, rnormS, rsaltS, Ses.of, hu, hu', takeP, pairS, Sd.d, noS, Ses.over, Ses.says, Ses.heard, nt, no, loginN, kTail, h1, h2, h3, h4, hs, hn, s1, s2]
        simp [F35, Ses.d, Nt.d, runderS, rpassS, rnormS, rsaltS, Ses.of, hu, hu', takeP, pairS, Sd.d, noS, Ses.over, Ses.says, Ses.heard, nt, no, loginN, kTail, h1, h2, h3, h4, hs, hn, c0, s1, s2]
      · have hs : sameB xn nm = false := by simp [sameB, hn]
        simp [F35, Ses.d, Nt.d, runderS, rpassS, rnormS, rsaltS, Ses.of, hu, hu', takeP, pairS, Sd.d, noS, Ses.over, Ses.says, Ses.heard, nt, no, loginN, kTail, h1, h2, h3, h4, hs, hn, s1, s2]
    simp [F35, Ses.d, Nt.d, runderS, rpassS, rnormS, rsaltS, Ses.of, hu, hu', takeP, pairS, Sd.d, noS, Ses.over, Ses.says, Ses.heard, nt, no, loginN, kTail, h1, h2, h3, h4, k3, k8, s1, s2]
  · by_cases k9 : k = 9
    · subst k9
      simp [F35, Ses.d, Nt.d, runderS, rpassS, rnormS, rsaltS, Ses.of, hu, hu', takeP, pairS, Sd.d, noS, Ses.over, Ses.says, Ses.heard, nt, no, loginN, kTail, h1, h2, h3, h4, s1, s2]
    simp [F35, Ses.d, Nt.d, runderS, rpassS, rnormS, rsaltS, Ses.of, hu, hu', takeP, pairS, Sd.d, noS, Ses.over, Ses.says, Ses.heard, nt, no, loginN, kTail, h1, h2, h3, h4, k3, k9, s1, s2]
  · by_cases k18 : k = 18
    · subst k18
      simp [F35, Ses.d, Nt.d, runderS, rpassS, rnormS, rsaltS, Ses.of, hu, hu', takeP, pairS, Sd.d, noS, Ses.over, Ses.says, Ses.heard, nt, no, loginN, kTail, h1, h2, h3, h4, s1, s2]
    by_cases k19 : k = 19
    · subst k19
      simp [F35, Ses.d, Nt.d, runderS, rpassS, rnormS, rsaltS, Ses.of, hu, hu', takeP, pairS, Sd.d, noS, Ses.over, Ses.says, Ses.heard, nt, no, loginN, kTail, h1, h2, h3, h4, s1, s2]
    simp [F35, Ses.d, Nt.d, runderS, rpassS, rnormS, rsaltS, Ses.of, hu, hu', takeP, pairS, Sd.d, noS, Ses.over, Ses.says, Ses.heard, nt, no, loginN, kTail, h1, h2, h3, h4, k3, k18, k19, s1, s2]
  · cases hpb : passB k
    simp [F35, Ses.d, Nt.d, runderS, rpassS, rnormS, rsaltS, Ses.of, hu, hu', takeP, pairS, Sd.d, noS, Ses.over, Ses.says, Ses.heard, nt, no, loginN, kTail, h1, h2, h3, h4, k3, hpb, s1, s2]
    simp [F35, Ses.d, Nt.d, runderS, rpassS, rnormS, rsaltS, Ses.of, hu, hu', takeP, pairS, Sd.d, noS, Ses.over, Ses.says, Ses.heard, nt, no, loginN, kTail, h1, h2, h3, h4, k3, hpb, s1, s2]
def rtakeS : List A → Option (Prop × A)
  | [.agg cs, .agg ns] => (Ses.of cs).bind fun s => (Nt.of ns).map fun n => (s.nm.size ≤ 1000000 ∧ s.pw.size ≤ 1000000 ∧ n.name.size ≤ 1000000 ∧ n.data.size ≤ 1000000, pairS (takeP s n))
  | _ => none
theorem rtakeS_ok : ∀ l p r, rtakeS l = some (p, r) → p → AF Tryd.prog (gl0 m) 35 l r := by
  intro l p r h hp
  unfold rtakeS at h
  split at h
  · obtain ⟨s, hs, h⟩ := bind_some h
    obtain ⟨n, hn, h⟩ := map_some h
    simp only [Prod.mk.injEq] at h; obtain ⟨rfl, rfl⟩ := h
    rw [Ses.of_d hs, Nt.of_d hn]
    exact rtake_AF s n hp.1 hp.2.1 hp.2.2.1 hp.2.2.2
  · cases h
def rtickS : List A → Option (Prop × A)
  | [.agg cs] => (Ses.of cs).map fun s => (True, pairS (tickP s))
  | _ => none
theorem rtickS_ok : ∀ l p r, rtickS l = some (p, r) → p → AF Tryd.prog (gl0 m) 36 l r := by
  intro l p r h hp
  unfold rtickS at h
  split at h
  · obtain ⟨s, hs, h⟩ := map_some h
    simp only [Prod.mk.injEq] at h; obtain ⟨rfl, rfl⟩ := h
    rw [Ses.of_d hs]
    exact rtick_AF s
  · cases h
def rstopS : List A → Option (Prop × A)
  | [.agg cs, .one (.v (.int .i64 c))] => (Ses.of cs).map fun s => (True, pairS (stopP s c))
  | _ => none
theorem rstopS_ok : ∀ l p r, rstopS l = some (p, r) → p → AF Tryd.prog (gl0 m) 37 l r := by
  intro l p r h hp
  unfold rstopS at h
  split at h
  · obtain ⟨c, hc, h⟩ := map_some h
    simp only [Prod.mk.injEq] at h; obtain ⟨rfl, rfl⟩ := h
    rw [Ses.of_d hc]
    exact rstop_AF c _
  · cases h
def rsentS : List A → Option (Prop × A)
  | [.agg cs] => (Ses.of cs).map fun s => (True, .agg (sentP s).d)
  | _ => none
theorem rsentS_ok : ∀ l p r, rsentS l = some (p, r) → p → AF Tryd.prog (gl0 m) 38 l r := by
  intro l p r h hp
  unfold rsentS at h
  split at h
  · obtain ⟨s, hs, h⟩ := map_some h
    simp only [Prod.mk.injEq] at h; obtain ⟨rfl, rfl⟩ := h
    rw [Ses.of_d hs]
    exact rsent_AF s
  · cases h
set_option maxHeartbeats 4000000 in
theorem model_AF (s : Ses) (a : Act) (h1 : s.nm.size ≤ 1000000) (h2 : s.pw.size ≤ 1000000) (h3 : a.n.name.size ≤ 1000000) (h4 : a.n.data.size ≤ 1000000) : AF Tryd.prog (gl0 m) 20 [.agg s.d, .agg a.d] (pairS (doesP s a)) := by
  refine AF_by (SpOK.cons rtakeS_ok (SpOK.cons rtickS_ok (SpOK.cons rstopS_ok (SpOK.cons rsentS_ok SpOK.none)))) mixed F20_ok ?_
  have had : a.d = [.v (.int .i64 a.kind), .v (.int .i64 a.n.kind), .v (.string a.n.name), .v (.string a.n.text), .v (.string a.n.data), .v (.int .i64 a.n.code), .v (.int .i64 a.n.status), .v (.int .i64 a.n.idle), .v (.int .i64 a.n.time), .v (.bool a.n.ok), .sl .no 6 a.n.items, .sl .no 1 a.n.codes, .v (.int .i64 a.code)] := rfl
  have hsd : ∀ s : Ses, s.d = [.v (.int .i64 s.ph), .v (.string s.nm), .v (.string s.pw), .v (.int .i64 s.st), .v (.int .i64 s.tm), .v (.int .i64 s.ct), .v (.int .i64 s.hd), .v (.int .i64 s.sd), .v (.int .i64 s.cd)] := fun _ => rfl
  have hod : ∀ o : Sd, o.d = [.sl .no 11 (o.notes.map Nt.d), .v (.bool o.fresh), .sl .no 11 (o.up.map Nt.d)] := fun _ => rfl
  by_cases c0 : a.kind = 0
  · rw [doesP, if_pos c0]
    generalize hq : takeP s a.n = q at *
    obtain ⟨t, o⟩ := q
    simp [F20, had, hsd, hod, rtakeS, rtickS, rstopS, rsentS, Ses.of, Nt.of, pairS, c0, hq, h1, h2, h3, h4]
  rw [doesP, if_neg c0]
  by_cases c1 : a.kind = 1
  · rw [if_pos c1]
    generalize hq : tickP s = q at *
    obtain ⟨t, o⟩ := q
    simp [F20, had, hsd, hod, rtakeS, rtickS, rstopS, rsentS, Ses.of, Nt.of, pairS, c0, c1, hq, h1, h2, h3, h4]
  rw [if_neg c1]
  by_cases c2 : a.kind = 2
  · rw [if_pos c2]
    generalize hq : stopP s a.code = q at *
    obtain ⟨t, o⟩ := q
    simp [F20, had, hsd, hod, rtakeS, rtickS, rstopS, rsentS, Ses.of, Nt.of, pairS, c0, c1, c2, hq, h1, h2, h3, h4]
  rw [if_neg c2]
  generalize hq : sentP s = t at *
  simp [F20, had, hsd, hod, rtakeS, rtickS, rstopS, rsentS, Ses.of, Nt.of, pairS, c0, c1, c2, hq, h1, h2, h3, h4, noS]
def modelS : List A → Option (Prop × A)
  | [.agg cs, .agg ns] => (Ses.of cs).bind fun s => (Act.of ns).map fun a => (s.nm.size ≤ 1000000 ∧ s.pw.size ≤ 1000000 ∧ a.n.name.size ≤ 1000000 ∧ a.n.data.size ≤ 1000000, pairS (doesP s a))
  | _ => none
theorem modelS_ok : ∀ l p r, modelS l = some (p, r) → p → AF Tryd.prog (gl0 m) 20 l r := by
  intro l p r h hp
  unfold modelS at h
  split at h
  · obtain ⟨s, hs, h⟩ := bind_some h
    obtain ⟨n, hn, h⟩ := map_some h
    simp only [Prod.mk.injEq] at h; obtain ⟨rfl, rfl⟩ := h
    rw [Ses.of_d hs, Act.of_d hn]
    exact model_AF s n hp.1 hp.2.1 hp.2.2.1 hp.2.2.2
  · cases h
end Go.Proofs.YtbhingdlclfipaaDoor.Ab
