/- The layer session, part 15: the law SessionOrder, walked. -/
import Derived.Test.YtbhingdlclfipaaDoorGn
namespace Go.Proofs.YtbhingdlclfipaaDoor.Ab
open Go Go.RowKit Go.Proofs
set_option linter.unusedVariables false
set_option linter.unusedSimpArgs false
variable {m : Int}
def orderSp (l : List Act) : Sp := spc 14 (smallS l) (spc 8 liveS (spc 9 beginS (spc 19 doesS fun _ _ => none)))
theorem orderSp_ok (l : List Act) (h2 : ∀ a ∈ l, a.Fit) (h3 : l.length ≤ 1125899906842624) : SpOK Tryd.prog (gl0 m) (orderSp l) := SpOK.cons (smallS_ok l h2 h3) (SpOK.cons liveS_ok (SpOK.cons beginS_ok (SpOK.cons doesS_ok SpOK.none)))
theorem zero_start (b : Bg) (h : b.start.2.2 = 2) : b.start = (zeroSes, noS, 2) := by
  unfold Bg.start startP at h ⊢
  split
  · rename_i hs
    rw [if_pos hs] at h
    cases h
  · rfl
set_option maxRecDepth 100000 in
set_option maxHeartbeats 8000000 in
theorem order_AF (b : Bg) (l : List Act) (h1 : b.nm.size ≤ 1125899906842624) (h2 : b.pw.size ≤ 1125899906842624) (hf : ∀ a ∈ l, a.Fit) (hl : l.length ≤ 1125899906842624) :
    AF Tryd.prog (gl0 m) 7 [.agg b.d, .one (.sl .no 13 (l.map Act.d))] (.one (.v (.bool true))) := by
  refine AF_by (orderSp_ok l hf hl) mixed F7_ok ?_
  have v1 : IntKind.i64.wrap ((b.nm.size : Int) + (b.pw.size : Int)) = (b.nm.size : Int) + (b.pw.size : Int) := wrap_small _ (by omega) (by omega)
  have hbd : b.d = [.v (.string b.nm), .v (.string b.pw), .v (.int .i64 b.st), .v (.int .i64 b.tm), .v (.int .i64 b.ct)] := rfl
  have hsd : ∀ s : Ses, s.d = [.v (.int .i64 s.ph), .v (.string s.nm), .v (.string s.pw), .v (.int .i64 s.st), .v (.int .i64 s.tm), .v (.int .i64 s.ct), .v (.int .i64 s.hd), .v (.int .i64 s.sd), .v (.int .i64 s.cd)] := fun _ => rfl
  have hod : ∀ o : Sd, o.d = [.sl .no 11 (o.notes.map Nt.d), .v (.bool o.fresh), .sl .no 11 (o.up.map Nt.d)] := fun _ => rfl
  have had : ∀ a : Act, a.d = [.v (.int .i64 a.kind), .v (.int .i64 a.n.kind), .v (.string a.n.name), .v (.string a.n.text), .v (.string a.n.data), .v (.int .i64 a.n.code), .v (.int .i64 a.n.status), .v (.int .i64 a.n.idle), .v (.int .i64 a.n.time), .v (.bool a.n.ok), .sl .no 6 a.n.items, .sl .no 1 a.n.codes, .v (.int .i64 a.code)] := fun _ => rfl
  have hnd : ∀ n : Nt, n.d = [.v (.int .i64 n.kind), .v (.string n.name), .v (.string n.text), .v (.string n.data), .v (.int .i64 n.code), .v (.int .i64 n.status), .v (.int .i64 n.idle), .v (.int .i64 n.time), .v (.bool n.ok), .sl .no 6 n.items, .sl .no 1 n.codes] := fun _ => rfl
  by_cases c1 : (12000 : Int) < (b.nm.size : Int) + (b.pw.size : Int)
  · simp [F7, hbd, orderSp, v1, liveS, smallS, c1]
  cases hs : smallP l
  · simp [F7, hbd, orderSp, v1, liveS, smallS, c1, hs]
  have hs' := hs
  simp only [smallP, decide_eq_true_eq] at hs'
  have hmem := smallGo_mem l 0 0 (by omega) hs'.2
  have s1 : b.nm.size ≤ 1000000 := by omega
  have s2 : b.pw.size ≤ 1000000 := by omega
  have hst := start_cases b
  have hz := zero_start b
  have hsec := start_secret b
  have hlen : (l.map Act.d).length = l.length := List.length_map _
  have hget : ∀ (i : Nat) (a : Act), l[i]? = some a → (l.map Act.d)[i]? = some a.d := fun i a h => by rw [List.getElem?_map, h]; rfl
  generalize hq : b.start = q at *
  obtain ⟨s0, o0, e0⟩ := q
  simp only at hst hz hsec
  rcases hst with rfl | ⟨rfl, k1, k2, k3, k4⟩
  · have hz := hz rfl
    simp only [Prod.mk.injEq] at hz
    obtain ⟨rfl, rfl, _⟩ := hz
    simp [F7, hbd, orderSp, v1, liveS, smallS, c1, hs, beginS, Bg.of, hq, triS, hsd, hod, s1, s2, zeroSes, noS, no]
    decide
  · obtain ⟨hpw, hph⟩ := hsec rfl
    simp [F7, hbd, orderSp, v1, liveS, smallS, c1, hs, beginS, Bg.of, hq, triS, hsd, hod, s1, s2]
    generalize l.map Act.d = xs at *
    refine awp_loop (fun k S => ∃ i s, i + k = l.length ∧ 1 ≤ s.ph ∧ s.ph ≤ 6 ∧ s.nm = b.nm ∧ s.pw = b.pw ∧ S.env 1 = some (.one (.sl .no 13 xs)) ∧ S.env 5 = some (.one (.ptr 21 0)) ∧ S.env 8 = some (.one (.v (.int .i64 (i : Nat)))) ∧
      (S.va 1 ∧ S.va 5 ∧ S.va 8) ∧ S.bx 21 = some (.cells 26 s.d) ∧ 21 < S.nx) ⟨l.length, 0, s0, ?_⟩ ?_
    · simp [hsd, hph, k3, k4]
    rintro k S ⟨i, s, hik, hp1, hp6, hnm, hpw', e1, e5, e8, ⟨u1, u5, u8⟩, hb, hnx⟩
    have hbn : ∀ x y z : Nat, (21 : Nat) < S.nx + x + y + z := fun _ _ _ => by omega
    have hne : ∀ k, k ≤ 21 → (S.nx = k) = False := fun k hk => eq_false (by omega)
    have hbn1 : ∀ x : Nat, (21 : Nat) < S.nx + x := fun _ => by omega
    have hbn2 : ∀ x y : Nat, (21 : Nat) < S.nx + x + y := fun _ _ => by omega
    have hbn4 : ∀ x y z w : Nat, (21 : Nat) < S.nx + x + y + z + w := fun _ _ _ _ => by omega
    have s1' : s.nm.size ≤ 1000000 := by rw [hnm]; exact s1
    have s2' : s.pw.size ≤ 1000000 := by rw [hpw']; exact s2
    by_cases hi : i < l.length
    · have ha2 := hmem l[i] (List.getElem_mem hi)
      have hgi := hget i l[i] (List.getElem?_eq_getElem hi)
      have hgood := good_does s l[i] hp1 hp6 (by rw [hpw']; exact hpw)
      generalize l[i] = a at *
      have han := Nt.len_le a.n
      simp only [Nt.len] at han
      have s3 : a.n.name.size ≤ 1000000 := by omega
      have s4 : a.n.data.size ≤ 1000000 := by omega
      generalize hqd : doesP s a = q at *
      obtain ⟨t, p⟩ := q
      simp only at hgood
      have hi' : i < xs.length := by omega
      have hgi' := (List.getElem?_eq_some_iff.1 hgi).2
      have w7 : IntKind.i64.wrap ((i : Int) + 1) = ((i + 1 : Nat) : Int) := by rw [wrap_small _ (by omega) (by omega)]; omega
      by_cases h6 : s.ph = 6
      · obtain ⟨rfl, rfl⟩ := hgood.fin h6
        simp [e1, e5, e8, u1, u5, u8, hb, hnx, hne, hbn, hbn1, hbn2, hbn4, hi, hi', hlen, hgi, hgi', had a, hsd, orderSp, doesS, Ses.of, Act.of, hqd, pairS, hod, s1', s2', s3, s4, noS, eq_true h6]
        refine ⟨by decide, awp_once ?_⟩
        simp [e1, e5, e8, u1, u5, u8, hb, hnx, hne, hbn, hbn1, hbn2, hbn4, hi, hi', hlen, hsd, w7]
        exact ⟨k - 1, by omega, i + 1, by omega, t, hp1, hp6, hnm, hpw', by omega, ⟨rfl, rfl, rfl, rfl, rfl, rfl, rfl, rfl, rfl⟩⟩
      · have g1 : ¬ t.ph < s.ph := by have := hgood.ph; omega
        have g2 := hgood.nm
        have g3 := hgood.pw
        simp [e1, e5, e8, u1, u5, u8, hb, hnx, hne, hbn, hbn1, hbn2, hbn4, hi, hi', hlen, hgi, hgi', had a, hsd, orderSp, doesS, Ses.of, Act.of, hqd, pairS, hod, s1', s2', s3, s4, h6, g1, g2, g3]
        refine ⟨fun h h5 h5' => (hgood.up h).elim (fun h => absurd h h5) fun h => h.elim (fun h => absurd h h5') id, ?_⟩
        have hnl : (p.notes.map Nt.d).length = p.notes.length := List.length_map _
        have hng : ∀ (j : Nat) (n : Nt), p.notes[j]? = some n → (p.notes.map Nt.d)[j]? = some n.d := fun i a h => by rw [List.getElem?_map, h]; rfl
        have hgn := hgood.notes
        have hnc := hgood.len
        generalize p.notes.map Nt.d = ns at *
        refine awp_loop (fun k' S' => ∃ j n1 n2, j + k' = p.notes.length ∧ S'.env 1 = some (.one (.sl .no 13 xs)) ∧ S'.env 5 = some (.one (.ptr 21 0)) ∧ S'.env 8 = some (.one (.v (.int .i64 (i : Nat)))) ∧ S'.env 9 = some (.one (.ptr n1 0)) ∧ S'.env 10 = some (.one (.ptr n2 0)) ∧ S'.env 11 = some (.one (.v (.int .i64 (j : Nat)))) ∧
          (S'.va 1 ∧ S'.va 5 ∧ S'.va 8 ∧ S'.va 9 ∧ S'.va 10 ∧ S'.va 11) ∧ S'.bx 21 = some (.cells 26 s.d) ∧ S'.bx n1 = some (.cells 26 t.d) ∧ S'.bx n2 = some (.cells 29 [.sl .no 11 ns, .v (.bool p.fresh), .sl .no 11 (p.up.map Nt.d)]) ∧ 21 < S'.nx ∧ n1 < S'.nx ∧ n2 < S'.nx) ⟨p.notes.length, 0, S.nx + 4 + 9, S.nx + 4 + 10, ?_⟩ ?_
        · simp [e1, e5, e8, u1, u5, u8, hb, hnx, hne, hbn, hbn1, hbn2, hbn4, hsd, g2, g3]
          trace_state
        rintro k' S' ⟨j, n1, n2, hjk, e1', e5', e8', e9', e10', e11', ⟨u1', u5', u8', u9', u10', u11'⟩, hb0, hb1, hb2, hx0, hx1, hx2⟩
        have gne : ∀ k, k ≤ 21 → (S'.nx = k) = False := fun k hk => eq_false (by omega)
        have q0 : ∀ x y z : Nat, (21 : Nat) < S'.nx + x + y + z := fun _ _ _ => by omega
        have q04 : ∀ x y z w : Nat, (21 : Nat) < S'.nx + x + y + z + w := fun _ _ _ _ => by omega
        have q0' : ∀ x y : Nat, (21 : Nat) < S'.nx + x + y := fun _ _ => by omega
        have q0'' : ∀ x : Nat, (21 : Nat) < S'.nx + x := fun _ => by omega
        have q1 : ∀ x y : Nat, (n1 = S'.nx + x + y) = False := fun _ _ => eq_false (by omega)
        have q2 : ∀ x y : Nat, (n2 = S'.nx + x + y) = False := fun _ _ => eq_false (by omega)
        have q1' : ∀ x : Nat, (n1 = S'.nx + x) = False := fun _ => eq_false (by omega)
        have q2' : ∀ x : Nat, (n2 = S'.nx + x) = False := fun _ => eq_false (by omega)
        by_cases hj : j < p.notes.length
        · have hgq := hng j p.notes[j] (List.getElem?_eq_getElem hj)
          obtain ⟨f1, f2, f3⟩ := hgn p.notes[j] (List.getElem_mem hj)
          generalize p.notes[j] = n at *
          have hj' : j < ns.length := by omega
          have hgq' := (List.getElem?_eq_some_iff.1 hgq).2
          have w8 : IntKind.i64.wrap ((j : Int) + 1) = ((j + 1 : Nat) : Int) := by rw [wrap_small _ (by omega) (by omega)]; omega
          have f2' : n.text = ⟨#[]⟩ := f2
          by_cases k7 : n.kind = 7
          · have f1' : (n.data.size : Int) = 16 := by have := f1 k7; omega
            simp [e1', e5', e8', e9', e10', e11', u1', u5', u8', u9', u10', u11', hb0, hb1, hb2, hx0, hx1, hx2, gne, q0, q04, q0', q0'', q1, q2, q1', q2', hi, hi', hlen, hgi, hgi', had a, hsd, hj, hj', hnl, hgq, hgq', hnd n, eq_true k7, f1', f2', w8]
            exact ⟨k' - 1, by omega, j + 1, by omega, by omega, by omega, by omega⟩
          · by_cases kd : n.data = s.pw
            · have f4 := f3 k7 kd
              simp [e1', e5', e8', e9', e10', e11', u1', u5', u8', u9', u10', u11', hb0, hb1, hb2, hx0, hx1, hx2, gne, q0, q04, q0', q0'', q1, q2, q1', q2', hi, hi', hlen, hgi, hgi', had a, hsd, hj, hj', hnl, hgq, hgq', hnd n, k7, eq_true kd, eq_true f4, f2', w8]
              exact ⟨k' - 1, by omega, j + 1, by omega, by omega, by omega, by omega⟩
            · simp [e1', e5', e8', e9', e10', e11', u1', u5', u8', u9', u10', u11', hb0, hb1, hb2, hx0, hx1, hx2, gne, q0, q04, q0', q0'', q1, q2, q1', q2', hi, hi', hlen, hgi, hgi', had a, hsd, hj, hj', hnl, hgq, hgq', hnd n, k7, kd, f2', w8]
              exact ⟨k' - 1, by omega, j + 1, by omega, by omega, by omega, by omega⟩
        · simp [e1', e5', e8', e9', e10', e11', u1', u5', u8', u9', u10', u11', hb0, hb1, hb2, hx0, hx1, hx2, gne, q0, q1, q2, hi, hi', hlen, hsd, hj, hnl, w7]
          exact ⟨k - 1, by omega, i + 1, by omega, t, by omega, hgood.rng, by rw [g2, hnm], by rw [g3, hpw'], by omega, ⟨rfl, rfl, rfl, rfl, rfl, rfl, rfl, rfl, rfl⟩⟩
    · simp [e1, e5, e8, u1, u5, u8, hb, hi, hlen, orderSp, liveS]
def actT : List Ty := .int .i64 :: (noteT ++ [.int .i64])
theorem leaves50 : leaves Tryd.prog 4 50 = some actT := by kernel_rfl
theorem act_of {B : Nat} {ds : List D} (h : OkL Tryd.prog B actT ds) (hB : B ≤ 1125899906842624) : ∃ a : Act, ds = a.d ∧ a.Fit := by
  unfold actT at h
  obtain ⟨k, d1, rfl, _, h1⟩ := okl_int h
  obtain ⟨n, its, r, rfl, hi, hk, hit, hil, h2⟩ := note_of (ts := [.int .i64]) h1
  obtain ⟨c, d2, rfl, _, h3⟩ := okl_int h2
  obtain rfl := h3.nil_inv
  exact ⟨⟨k, n, c⟩, rfl, ⟨by simp only; omega, its, by simp only; rw [hi]; exact itsOf_map its, fun x hx => by have := hit x hx; omega, by omega⟩⟩
theorem acts_of {B : Nat} (hB : B ≤ 1125899906842624) : ∀ {xs : List (List D)}, (∀ x ∈ xs, OkL Tryd.prog B actT x) → ∃ l : List Act, xs = l.map Act.d ∧ ∀ a ∈ l, a.Fit
  | [], h => ⟨[], rfl, by simp⟩
  | x :: xs, h => by
    obtain ⟨a, rfl, ha⟩ := act_of (h x (List.mem_cons_self ..)) hB
    obtain ⟨l, rfl, hl⟩ := acts_of hB (xs := xs) fun y hy => h y (List.mem_cons_of_mem _ hy)
    exact ⟨a :: l, rfl, fun b hb => by rcases List.mem_cons.1 hb with rfl | hb; exact ha; exact hl b hb⟩
theorem order_law (m : Int) (l : List A) (h : ArgsOk Tryd.prog reachBytes [(true, begT), (false, [.sl 50])] l) : AF Tryd.prog (gl0 m) 7 l (.one (.v (.bool true))) := by
  obtain ⟨d1, l1, rfl, h1, k1⟩ := argsOk_cons h
  obtain ⟨d2, l2, rfl, h2, k2⟩ := argsOk_cons k1
  obtain rfl := argsOk_nil k2
  obtain ⟨b, r, rfl, hn, hp, hr⟩ := begin_of (ts := []) h1
  obtain rfl := hr.nil_inv
  obtain ⟨n, us, xs, r2, rfl, hl, hx, hlen, hr2⟩ := okl_sl h2
  obtain rfl := hr2.nil_inv
  have e := leaves_eq hl leaves50
  subst e
  obtain ⟨acts, rfl, ha⟩ := acts_of (by unfold reachBytes; omega) hx
  unfold reachBytes at hn hp hlen
  simp only [List.length_map] at hlen
  exact order_AF b acts (by omega) (by omega) ha (by omega)
end Go.Proofs.YtbhingdlclfipaaDoor.Ab
