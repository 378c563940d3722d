/- The layer session, part 11: the law SessionHeard, walked. -/
import Derived.Test.YtbhingdlclfipaaDoorGj
namespace Go.Proofs.YtbhingdlclfipaaDoor.Ab
open Go Go.RowKit Go.Proofs
set_option linter.unusedVariables false
set_option linter.unusedSimpArgs false
variable {m : Int}
def It.of : List D → Option It
  | [.v (.string n), .v (.int .i64 g), .v (.int .i64 i), .v (.int .i64 t), .v (.string a), .v (.bool w)] => some ⟨n, g, i, t, a, w⟩
  | _ => none
theorem It.of_d {cs : List D} {c : It} (h : It.of cs = some c) : cs = c.d := by
  unfold It.of at h
  split at h
  · simp only [Option.some.injEq] at h; subst h; rfl
  · cases h
def itsOf : List (List D) → Option (List It)
  | [] => some []
  | x :: r => (It.of x).bind fun a => (itsOf r).map fun l => a :: l
theorem itsOf_d : ∀ {xs : List (List D)} {l : List It}, itsOf xs = some l → xs = l.map It.d
  | [], l, h => by simp only [itsOf, Option.some.injEq] at h; subst h; rfl
  | x :: r, l, h => by
    unfold itsOf at h
    obtain ⟨a, ha, h⟩ := bind_some h
    obtain ⟨l', hl, rfl⟩ := map_some h
    rw [It.of_d ha, itsOf_d hl]; rfl
theorem itsOf_map : ∀ l : List It, itsOf (l.map It.d) = some l
  | [] => rfl
  | a :: l => by rw [List.map_cons, itsOf, itsOf_map l]; rfl
def ItsOk (its : List It) : Prop := (∀ x ∈ its, x.len ≤ 4503599627370496) ∧ its.length ≤ 4503599627370496
def weightS : List A → Option (Prop × A)
  | [.agg cs, .one (.v (.int .i64 12000))] => (Nt.of cs).bind fun n => (itsOf n.items).map fun its => (n.len ≤ 4503599627370496 ∧ ItsOk its, nI (weightGo 12000 n.len its : Nat))
  | _ => none
theorem weightS_ok : ∀ l p r, weightS l = some (p, r) → p → AF Tryd.prog (gl0 m) 12 l r := by
  intro l p r h hp
  unfold weightS at h
  split at h
  · obtain ⟨n, hn, h⟩ := bind_some h
    obtain ⟨its, hi, h⟩ := map_some h
    simp only [Prod.mk.injEq] at h; obtain ⟨rfl, rfl⟩ := h
    rw [Nt.of_d hn]
    exact weight_AF n its (itsOf_d hi) hp.1 hp.2.1 hp.2.2
  · cases h
def heardSp : Sp := spc 8 liveS (spc 9 beginS (spc 10 takeS (spc 12 weightS (spc 13 tickS fun _ _ => none))))
theorem heardSp_ok : SpOK Tryd.prog (gl0 m) heardSp := SpOK.cons liveS_ok (SpOK.cons beginS_ok (SpOK.cons takeS_ok (SpOK.cons weightS_ok (SpOK.cons tickS_ok SpOK.none))))
/-! ### what a step keeps -/
theorem under_iff (s : Ses) : s.under = true ↔ 1 ≤ s.ph ∧ s.ph ≤ 5 := by simp [Ses.under]
theorem tick_keeps (s : Ses) (h : s.under = true) (h0 : 0 ≤ s.hd) (h1 : s.hd < 89) : (tickP s).1.under = true ∧ (tickP s).1.hd = s.hd + 1 ∧ (tickP s).1.nm = s.nm ∧ (tickP s).1.pw = s.pw := by
  have hw : inc s.hd = s.hd + 1 := wrap_small _ (by omega) (by omega)
  unfold tickP
  rw [if_pos h, if_neg (by omega)]
  split
  · rename_i h5
    exact ⟨h, hw, rfl, rfl⟩
  · exact ⟨h, hw, rfl, rfl⟩
theorem tick_ends (s : Ses) (h : s.under = true) (h1 : s.hd = 89) : (tickP s).1.ph = 6 ∧ (tickP s).1.cd = 200 := by
  have hw : inc s.hd = 90 := by rw [h1]; decide
  unfold tickP
  rw [if_pos h, if_pos (by omega)]
  exact ⟨rfl, rfl⟩
theorem take_keeps (s : Ses) (n : Nt) (h : s.under = true) (h3 : n.kind ≠ 3) (h8 : n.kind ≠ 8) : (takeP s n).1.under = true ∧ (takeP s n).1.hd = 0 ∧ (takeP s n).1.nm = s.nm ∧ (takeP s n).1.pw = s.pw := by
  unfold takeP
  rw [if_pos h, if_neg h3]
  split
  · exact ⟨rfl, rfl, rfl, rfl⟩
  rw [if_neg (fun q => h8 q.2)]
  repeat' split
  all_goals first
    | exact ⟨rfl, rfl, rfl, rfl⟩
    | exact ⟨h, rfl, rfl, rfl⟩
theorem start_cases (b : Bg) : (b.start.2.2 = 2) ∨ (b.start.2.2 = 0 ∧ b.start.1.under = true ∧ b.start.1.hd = 0 ∧ b.start.1.nm = b.nm ∧ b.start.1.pw = b.pw) := by
  unfold Bg.start startP
  split
  · exact .inr ⟨rfl, rfl, rfl, rfl, rfl⟩
  · exact .inl rfl
set_option maxRecDepth 100000 in
set_option maxHeartbeats 8000000 in
theorem heard_AF (b : Bg) (ws : List Int) (n : Nt) (its : List It) (hn : n.items = its.map It.d) (h1 : b.nm.size ≤ 1125899906842624) (h2 : b.pw.size ≤ 1125899906842624) (hw : ws.length ≤ 1125899906842624) (h3 : n.len ≤ 4503599627370496) (h4 : ItsOk its) :
    AF Tryd.prog (gl0 m) 4 [.agg b.d, .one (.sl .no 1 (ws.map fun w => [.v (.int .i64 w)])), .agg n.d] (.one (.v (.bool true))) := by
  refine AF_by heardSp_ok mixed F4_ok ?_
  have v1 : IntKind.i64.wrap ((b.nm.size : Int) + (b.pw.size : Int)) = (b.nm.size : Int) + (b.pw.size : Int) := wrap_small _ (by omega) (by omega)
  have hbd : b.d = [.v (.string b.nm), .v (.string b.pw), .v (.int .i64 b.st), .v (.int .i64 b.tm), .v (.int .i64 b.ct)] := rfl
  have hnd : n.d = [.v (.int .i64 n.kind), .v (.string n.name), .v (.string n.text), .v (.string n.data), .v (.int .i64 n.code), .v (.int .i64 n.status), .v (.int .i64 n.idle), .v (.int .i64 n.time), .v (.bool n.ok), .sl .no 6 n.items, .sl .no 1 n.codes] := rfl
  have hsd : ∀ s : Ses, s.d = [.v (.int .i64 s.ph), .v (.string s.nm), .v (.string s.pw), .v (.int .i64 s.st), .v (.int .i64 s.tm), .v (.int .i64 s.ct), .v (.int .i64 s.hd), .v (.int .i64 s.sd), .v (.int .i64 s.cd)] := fun _ => rfl
  have hod : ∀ o : Sd, o.d = [.sl .no 11 (o.notes.map Nt.d), .v (.bool o.fresh), .sl .no 11 (o.up.map Nt.d)] := fun _ => rfl
  have hits : itsOf n.items = some its := by rw [hn]; exact itsOf_map its
  have hlen : (ws.map fun w => ([.v (.int .i64 w)] : List D)).length = ws.length := List.length_map _
  have hget : ∀ (i : Nat) (a : Int), ws[i]? = some a → (ws.map fun w => ([.v (.int .i64 w)] : List D))[i]? = some [.v (.int .i64 a)] := fun i a h => by rw [List.getElem?_map, h]; rfl
  generalize (ws.map fun w => ([.v (.int .i64 w)] : List D)) = xs at *
  have hst := start_cases b
  generalize hwt : weightGo 12000 n.len its = wt at *
  have hwle : n.len ≤ wt := by rw [← hwt]; exact weightGo_le _ _ _
  by_cases c1 : (12000 : Int) < (b.nm.size : Int) + (b.pw.size : Int)
  · simp [F4, hbd, hnd, heardSp, v1, hlen, liveS, weightS, Nt.of, hits, hwt, nI, h3, h4, c1]
  by_cases c2 : (20 : Int) < (ws.length : Int)
  · simp [F4, hbd, hnd, heardSp, v1, hlen, liveS, weightS, Nt.of, hits, hwt, nI, h3, h4, c1, c2]
  by_cases c3 : (12000 : Int) < (wt : Int)
  · simp [F4, hbd, hnd, heardSp, v1, hlen, liveS, weightS, Nt.of, hits, hwt, nI, h3, h4, c1, c2, c3]
  by_cases c4 : n.kind = 3
  · simp [F4, hbd, hnd, heardSp, v1, hlen, liveS, weightS, Nt.of, hits, hwt, nI, h3, h4, c1, c2, c3, eq_true c4]
  by_cases c5 : n.kind = 8
  · simp [F4, hbd, hnd, heardSp, v1, hlen, liveS, weightS, Nt.of, hits, hwt, nI, h3, h4, c1, c2, c3, c4, eq_true c5]
  simp only [Nt.len] at hwle
  have s1 : b.nm.size ≤ 1000000 := by omega
  have s2 : b.pw.size ≤ 1000000 := by omega
  have s3 : n.name.size ≤ 1000000 := by omega
  have s4 : n.data.size ≤ 1000000 := by omega
  generalize hq : b.start = q at *
  obtain ⟨s0, o0, e0⟩ := q
  simp only at hst
  rcases hst with rfl | ⟨rfl, k1, k2, k3, k4⟩
  · simp [F4, hbd, hnd, heardSp, v1, hlen, liveS, weightS, Nt.of, hits, hwt, nI, h3, h4, c1, c2, c3, c4, c5, beginS, Bg.of, hq, triS, hsd, hod, s1, s2]
  · simp [F4, hbd, hnd, heardSp, v1, hlen, liveS, weightS, Nt.of, hits, hwt, nI, h3, h4, c1, c2, c3, c4, c5, beginS, Bg.of, hq, triS, hsd, hod, s1, s2]
    refine awp_loop (fun k S => ∃ i s, i + k = ws.length ∧ s.under = true ∧ s.hd = 0 ∧ s.nm = b.nm ∧ s.pw = b.pw ∧ S.env 1 = some (.one (.sl .no 1 xs)) ∧ S.env 5 = some (.one (.ptr 1 0)) ∧ S.env 7 = some (.one (.ptr 37 0)) ∧ S.env 10 = some (.one (.v (.int .i64 (i : Nat)))) ∧
      (S.va 1 ∧ S.va 5 ∧ S.va 7 ∧ S.va 10) ∧ S.bx 1 = some (.cells 37 n.d) ∧ S.bx 37 = some (.cells 26 s.d) ∧ 37 < S.nx) ⟨ws.length, 0, s0, ?_⟩ ?_
    · simp [hsd, hnd, k1, k2, k3, k4]
    rintro k S ⟨i, s, hik, hu, hh, hnm, hpw, e1, e5, e7, e10, ⟨u1, u5, u7, u10⟩, hb1, hb37, hnx⟩
    by_cases hi : i < ws.length
    · have hgi := hget i ws[i] (List.getElem?_eq_getElem hi)
      generalize ws[i] = w at *
      have hi' : i < xs.length := by omega
      have hgi' := (List.getElem?_eq_some_iff.1 hgi).2
      simp [e1, e5, e7, e10, u1, u5, u7, u10, hi, hlen]
      refine awp_loop (fun k' S' => ∃ (j : Nat) (s : Ses), j + k' = 89 ∧ s.under = true ∧ s.hd = j ∧ s.nm = b.nm ∧ s.pw = b.pw ∧ S'.env 1 = some (.one (.sl .no 1 xs)) ∧ S'.env 5 = some (.one (.ptr 1 0)) ∧ S'.env 7 = some (.one (.ptr 37 0)) ∧ S'.env 10 = some (.one (.v (.int .i64 (i : Nat)))) ∧ S'.env 11 = some (.one (.v (.int .i64 (j : Nat)))) ∧
        (S'.va 1 ∧ S'.va 5 ∧ S'.va 7 ∧ S'.va 10 ∧ S'.va 11) ∧ S'.bx 1 = some (.cells 37 n.d) ∧ S'.bx 37 = some (.cells 26 s.d) ∧ 37 < S'.nx) ⟨89, 0, s, ?_⟩ ?_
      · simp [e1, e5, e7, e10, u1, u5, u7, u10, hb1, hb37, hu, hh, hnm, hpw]
        omega
      clear hu hh hnm hpw e1 e5 e7 e10 u1 u5 u7 u10 hb1 hb37
      rintro k' S' ⟨j, s, hjk, hu, hh, hnm, hpw, e1, e5, e7, e10, e11, ⟨u1, u5, u7, u10, u11⟩, hb1, hb37, hnx'⟩
      have s1' : s.nm.size ≤ 1000000 := by rw [hnm]; exact s1
      have s2' : s.pw.size ≤ 1000000 := by rw [hpw]; exact s2
      by_cases hj : (j : Int) < w ∧ (j : Int) < 89
      · have hk := tick_keeps s hu (by omega) (by omega)
        generalize hqt : tickP s = q at *
        obtain ⟨t, o⟩ := q
        obtain ⟨g1, g2, g3, g4⟩ := hk
        simp only at g1 g2 g3 g4
        have w7 : IntKind.i64.wrap ((j : Int) + 1) = ((j + 1 : Nat) : Int) := by rw [wrap_small _ (by omega) (by omega)]; omega
        simp [heardSp, liveS, tickS, takeS, Ses.of, Nt.of, pairS, hsd, hod, hnd, e1, e5, e7, e10, e11, u1, u5, u7, u10, u11, hb1, hb37, hi, hi', hlen, hgi, hgi', hj.1, hj.2, hqt, w7]
        refine ⟨k' - 1, by omega, j + 1, by omega, t, g1, by rw [g2, hh]; omega, by rw [g3, hnm], by rw [g4, hpw], by omega, ⟨rfl, rfl, rfl, rfl, rfl, rfl, rfl, rfl, rfl⟩, by omega⟩
      · have hk := take_keeps s n hu c4 c5
        generalize hqt : takeP s n = q at *
        obtain ⟨t, o⟩ := q
        obtain ⟨g1, g2, g3, g4⟩ := hk
        simp only at g1 g2 g3 g4
        have w7 : IntKind.i64.wrap ((i : Int) + 1) = ((i + 1 : Nat) : Int) := by rw [wrap_small _ (by omega) (by omega)]; omega
        simp [heardSp, liveS, tickS, takeS, Ses.of, Nt.of, pairS, hsd, hod, hnd, e1, e5, e7, e10, e11, u1, u5, u7, u10, u11, hb1, hb37, hi, hi', hlen, hgi, hgi', hj, hqt, w7, s1', s2', s3, s4]
        refine ⟨k - 1, by omega, i + 1, by omega, t, g1, g2, by rw [g3, hnm], by rw [g4, hpw], by omega, ⟨rfl, rfl, rfl, rfl, rfl, rfl, rfl, rfl, rfl⟩, by omega⟩
    · have h6 : ¬ s.ph = 6 := by have := (under_iff s).1 hu; omega
      simp [heardSp, liveS, tickS, takeS, Ses.of, Nt.of, pairS, hsd, hod, hnd, e1, e5, e7, e10, u1, u5, u7, u10, hb1, hb37, hi, hlen, h6]
      refine awp_loop (fun k' S' => ∃ (j : Nat) (s : Ses), j + k' = 90 ∧ (j < 90 → s.under = true ∧ s.hd = j) ∧ (j = 90 → s.ph = 6 ∧ s.cd = 200) ∧ S'.env 7 = some (.one (.ptr 37 0)) ∧ S'.env 12 = some (.one (.v (.int .i64 (j : Nat)))) ∧
        (S'.va 7 ∧ S'.va 12) ∧ S'.bx 37 = some (.cells 26 s.d) ∧ 37 < S'.nx) ⟨90, 0, s, ?_⟩ ?_
      · simp [e7, u7, hb37, hu, hh, hsd]
        omega
      clear hu hh hnm hpw e1 e5 e7 e10 u1 u5 u7 u10 hb1 hb37 h6
      rintro k' S' ⟨j, s, hjk, hj1, hj2, e7, e12, ⟨u7, u12⟩, hb37, hnx'⟩
      by_cases hj : j < 90
      · obtain ⟨hu, hh⟩ := hj1 hj
        have h6 : ¬ s.ph = 6 := by have := (under_iff s).1 hu; omega
        have hj' : (j : Int) < 90 := by omega
        have hk : (j + 1 < 90 → (tickP s).1.under = true ∧ (tickP s).1.hd = ((j + 1 : Nat) : Int)) ∧ (j + 1 = 90 → (tickP s).1.ph = 6 ∧ (tickP s).1.cd = 200) := by
          refine ⟨fun h => ?_, fun h => tick_ends s hu (by omega)⟩
          have := tick_keeps s hu (by omega) (by omega)
          exact ⟨this.1, by rw [this.2.1]; omega⟩
        generalize hqt : tickP s = q at *
        obtain ⟨t, o⟩ := q
        have w7 : IntKind.i64.wrap ((j : Int) + 1) = ((j + 1 : Nat) : Int) := by rw [wrap_small _ (by omega) (by omega)]; omega
        simp [heardSp, liveS, tickS, takeS, Ses.of, Nt.of, pairS, hsd, hod, hnd, e7, e12, u7, u12, hb37, h6, hj', hqt, w7]
        refine ⟨k' - 1, by omega, j + 1, by omega, t, hk.1, hk.2, by omega, ⟨rfl, rfl, rfl, rfl, rfl, rfl, rfl, rfl, rfl⟩, by omega⟩
      · obtain ⟨hp, hc⟩ := hj2 (by omega)
        have hj' : ¬ (j : Int) < 90 := by omega
        simp [heardSp, liveS, tickS, takeS, Ses.of, Nt.of, pairS, hsd, hod, hnd, e7, e12, u7, u12, hb37, hj', hp, hc]
end Go.Proofs.YtbhingdlclfipaaDoor.Ab
