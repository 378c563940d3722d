/- The layer session, part 13: what is done; small. -/
import Derived.Test.YtbhingdlclfipaaDoorGl
namespace Go.Proofs.YtbhingdlclfipaaDoor.Ab
open Go Go.RowKit Go.Proofs
set_option linter.unusedVariables false
set_option linter.unusedSimpArgs false
variable {m : Int}
structure Act where
  kind : Int
  n : Nt
  code : Int
def Act.d (a : Act) : List D := .v (.int .i64 a.kind) :: (a.n.d ++ [.v (.int .i64 a.code)])
def Act.of : List D → Option Act
  | [.v (.int .i64 ak), .v (.int .i64 k), .v (.string n), .v (.string t), .v (.string d), .v (.int .i64 c), .v (.int .i64 s), .v (.int .i64 i), .v (.int .i64 tm), .v (.bool ok), .sl .no 6 items, .sl .no 1 codes, .v (.int .i64 ac)] => some ⟨ak, ⟨k, n, t, d, c, s, i, tm, ok, items, codes⟩, ac⟩
  | _ => none
theorem Act.of_d {cs : List D} {c : Act} (h : Act.of cs = some c) : cs = c.d := by
  unfold Act.of at h
  split at h
  · simp only [Option.some.injEq] at h; subst h; rfl
  · cases h
def doesP (s : Ses) (a : Act) : Ses × Sd := if a.kind = 0 then takeP s a.n else if a.kind = 1 then tickP s else if a.kind = 2 then stopP s a.code else (sentP s, noS)
set_option maxHeartbeats 4000000 in
theorem does_AF (s : Ses) (a : Act) (h1 : s.nm.size ≤ 1000000) (h2 : s.pw.size ≤ 1000000) (h3 : a.n.name.size ≤ 1000000) (h4 : a.n.data.size ≤ 1000000) : AF Tryd.prog (gl0 m) 19 [.agg s.d, .agg a.d] (pairS (doesP s a)) := by
  refine AF_by (SpOK.cons takeS_ok (SpOK.cons tickS_ok (SpOK.cons stopS_ok (SpOK.cons sentS_ok SpOK.none)))) mixed F19_ok ?_
  have had : a.d = [.v (.int .i64 a.kind), .v (.int .i64 a.n.kind), .v (.string a.n.name), .v (.string a.n.text), .v (.string a.n.data), .v (.int .i64 a.n.code), .v (.int .i64 a.n.status), .v (.int .i64 a.n.idle), .v (.int .i64 a.n.time), .v (.bool a.n.ok), .sl .no 6 a.n.items, .sl .no 1 a.n.codes, .v (.int .i64 a.code)] := rfl
  have hsd : ∀ s : Ses, s.d = [.v (.int .i64 s.ph), .v (.string s.nm), .v (.string s.pw), .v (.int .i64 s.st), .v (.int .i64 s.tm), .v (.int .i64 s.ct), .v (.int .i64 s.hd), .v (.int .i64 s.sd), .v (.int .i64 s.cd)] := fun _ => rfl
  have hod : ∀ o : Sd, o.d = [.sl .no 11 (o.notes.map Nt.d), .v (.bool o.fresh), .sl .no 11 (o.up.map Nt.d)] := fun _ => rfl
  by_cases c0 : a.kind = 0
  · rw [doesP, if_pos c0]
    generalize hq : takeP s a.n = q at *
    obtain ⟨t, o⟩ := q
    simp [F19, had, hsd, hod, takeS, tickS, stopS, sentS, Ses.of, Nt.of, pairS, c0, hq, h1, h2, h3, h4]
  rw [doesP, if_neg c0]
  by_cases c1 : a.kind = 1
  · rw [if_pos c1]
    generalize hq : tickP s = q at *
    obtain ⟨t, o⟩ := q
    simp [F19, had, hsd, hod, takeS, tickS, stopS, sentS, Ses.of, Nt.of, pairS, c0, c1, hq, h1, h2, h3, h4]
  rw [if_neg c1]
  by_cases c2 : a.kind = 2
  · rw [if_pos c2]
    generalize hq : stopP s a.code = q at *
    obtain ⟨t, o⟩ := q
    simp [F19, had, hsd, hod, takeS, tickS, stopS, sentS, Ses.of, Nt.of, pairS, c0, c1, c2, hq, h1, h2, h3, h4]
  rw [if_neg c2]
  generalize hq : sentP s = t at *
  simp [F19, had, hsd, hod, takeS, tickS, stopS, sentS, Ses.of, Nt.of, pairS, c0, c1, c2, hq, h1, h2, h3, h4, noS]
def doesS : List A → Option (Prop × A)
  | [.agg cs, .agg ns] => (Ses.of cs).bind fun s => (Act.of ns).map fun a => (s.nm.size ≤ 1000000 ∧ s.pw.size ≤ 1000000 ∧ a.n.name.size ≤ 1000000 ∧ a.n.data.size ≤ 1000000, pairS (doesP s a))
  | _ => none
theorem doesS_ok : ∀ l p r, doesS l = some (p, r) → p → AF Tryd.prog (gl0 m) 19 l r := by
  intro l p r h hp
  unfold doesS at h
  split at h
  · obtain ⟨s, hs, h⟩ := bind_some h
    obtain ⟨n, hn, h⟩ := map_some h
    simp only [Prod.mk.injEq] at h; obtain ⟨rfl, rfl⟩ := h
    rw [Ses.of_d hs, Act.of_d hn]
    exact does_AF s n hp.1 hp.2.1 hp.2.2.1 hp.2.2.2
  · cases h
/-! ### small -/
def Nt.weight (n : Nt) : Nat := weightGo 12000 n.len ((itsOf n.items).getD [])
structure Act.Fit (a : Act) : Prop where
  len : a.n.len ≤ 4503599627370496
  its : ∃ its, itsOf a.n.items = some its ∧ ItsOk its
theorem weightGo_bd (M : Nat) : ∀ (l : List It) (w : Nat), (∀ x ∈ l, x.len ≤ M) → weightGo 12000 w l ≤ max w (12001 + M)
  | [], w, _ => by unfold weightGo; omega
  | x :: l, w, h => by
    unfold weightGo
    split
    · have h1 := weightGo_bd M l (w + 1 + x.name.size + x.alias.size) fun y hy => h y (List.mem_cons_of_mem _ hy)
      have h2 := h x (List.mem_cons_self ..)
      simp only [It.len] at h2
      omega
    · omega
theorem Act.Fit.le {a : Act} (h : a.Fit) : a.n.weight ≤ 5503599627370496 := by
  obtain ⟨its, h1, h2⟩ := h.its
  have := weightGo_bd _ its a.n.len h2.1
  have h3 := h.len
  unfold Nt.weight
  rw [h1]
  simp only [Option.getD_some]
  omega
def smallGo : Nat → Nat → List Act → Nat
  | n, _, [] => n
  | n, i, a :: l => if i ≤ 150 ∧ n ≤ 12000 then smallGo (n + a.n.weight) (i + 1) l else n
def smallP (l : List Act) : Bool := decide (l.length ≤ 150 ∧ smallGo 0 0 l ≤ 12000)
theorem smallGo_le : ∀ (l : List Act) (n i : Nat), n ≤ smallGo n i l
  | [], n, i => Nat.le_refl _
  | a :: l, n, i => by
    unfold smallGo
    split
    · exact Nat.le_trans (Nat.le_add_right _ _) (smallGo_le l _ _)
    · exact Nat.le_refl _
theorem smallGo_mem : ∀ (l : List Act) (n i : Nat), i + l.length ≤ 150 → smallGo n i l ≤ 12000 → ∀ a ∈ l, a.n.weight ≤ 12000
  | [], n, i, _, _, a, ha => by cases ha
  | x :: l, n, i, hi, h, a, ha => by
    have hn := Nat.le_trans (smallGo_le (x :: l) n i) h
    simp only [List.length_cons] at hi
    unfold smallGo at h
    rw [if_pos ⟨by omega, hn⟩] at h
    rcases List.mem_cons.1 ha with rfl | ha
    · exact Nat.le_trans (Nat.le_add_left _ _) (Nat.le_trans (smallGo_le l _ _) h)
    · exact smallGo_mem l _ _ (by omega) h a ha
theorem Nt.len_le (n : Nt) : n.len ≤ n.weight := weightGo_le _ _ _
set_option maxRecDepth 100000 in
set_option maxHeartbeats 4000000 in
theorem small_AF (l : List Act) (h2 : ∀ a ∈ l, a.Fit) (h3 : l.length ≤ 1125899906842624) :
    AF Tryd.prog (gl0 m) 14 [.one (.sl .no 13 (l.map Act.d))] (.one (.v (.bool (smallP l)))) := by
  refine AF_by (SpOK.cons weightS_ok SpOK.none) mixed F14_ok ?_
  simp [F14]
  have hlen : (l.map Act.d).length = l.length := List.length_map _
  have hget : ∀ (i : Nat) (a : Act), l[i]? = some a → (l.map Act.d)[i]? = some a.d := fun i a h => by rw [List.getElem?_map, h]; rfl
  generalize l.map Act.d = xs at *
  unfold smallP
  generalize htot : smallGo 0 0 l = tot at *
  refine awp_loop (fun k S => ∃ i n, i + k = l.length ∧ n ≤ 5513599627370496 ∧ smallGo n i (l.drop i) = tot ∧ S.env 0 = some (.one (.sl .no 13 xs)) ∧ S.env 3 = some (.one (.v (.int .i64 (n : Nat)))) ∧ S.env 4 = some (.one (.v (.int .i64 (i : Nat)))) ∧ S.va 0 ∧ S.va 3 ∧ S.va 4) ⟨l.length, 0, 0, ?_⟩ ?_
  · refine ⟨by omega, by omega, by simpa using htot, ?_⟩
    simp
  rintro k S ⟨i, n, hik, hn, hg, e0, e3, e4, v0, v3, v4⟩
  by_cases hi : i < l.length
  · have hdrop := List.drop_eq_getElem_cons hi
    have ha2 := h2 l[i] (List.getElem_mem hi)
    have hgi := hget i l[i] (List.getElem?_eq_getElem hi)
    generalize l[i] = a at *
    rw [hdrop] at hg
    unfold smallGo at hg
    by_cases hc : i ≤ 150 ∧ n ≤ 12000
    · obtain ⟨c1, c2⟩ := hc
      rw [if_pos ⟨c1, c2⟩] at hg
      have c1' : (i : Int) ≤ 150 := by omega
      have c2' : (n : Int) ≤ 12000 := by omega
      have hi' : i < xs.length := by omega
      have hle := ha2.le
      have had : a.d = [.v (.int .i64 a.kind), .v (.int .i64 a.n.kind), .v (.string a.n.name), .v (.string a.n.text), .v (.string a.n.data), .v (.int .i64 a.n.code), .v (.int .i64 a.n.status), .v (.int .i64 a.n.idle), .v (.int .i64 a.n.time), .v (.bool a.n.ok), .sl .no 6 a.n.items, .sl .no 1 a.n.codes, .v (.int .i64 a.code)] := rfl
      obtain ⟨its, hits, hio⟩ := ha2.its
      have hal := ha2.len
      have hwt : weightGo 12000 a.n.len its = a.n.weight := by unfold Nt.weight; rw [hits]; rfl
      generalize a.n.weight = w at *
      have w1 : IntKind.i64.wrap ((n : Int) + (w : Int)) = (n : Int) + (w : Int) := wrap_small _ (by omega) (by omega)
      have w7 : IntKind.i64.wrap ((i : Int) + 1) = (i : Int) + 1 := wrap_small _ (by omega) (by omega)
      have hgi' := (List.getElem?_eq_some_iff.1 hgi).2
      simp [e0, e3, e4, v0, v3, v4, hi, hi', hlen, hgi, hgi', c1', c2', had, weightS, Nt.of, hits, hio, hal, hwt, nI, w1, w7]
      refine ⟨k - 1, by omega, i + 1, by omega, n + w, by omega, hg, by push_cast; rfl, by push_cast; rfl⟩
    · rw [if_neg hc] at hg
      have hcc : ¬ ((i : Int) ≤ 150 ∧ (n : Int) ≤ 12000) := by omega
      simp [e0, e3, e4, v0, v3, v4, hi, hlen, hcc]
      subst hg; rw [Bool.eq_iff_iff]; simp; omega
  · have hg' : tot = n := by
      rw [List.drop_eq_nil_of_le (by omega)] at hg; exact hg.symm
    simp [e0, e3, e4, v0, v3, v4, hi, hlen]
    subst hg'; rw [Bool.eq_iff_iff]; simp; omega
def smallS (l : List Act) : List A → Option (Prop × A)
  | [.one (.sl .no 13 xs)] => some (xs = l.map Act.d, .one (.v (.bool (smallP l))))
  | _ => none
theorem smallS_ok (l : List Act) (h2 : ∀ a ∈ l, a.Fit) (h3 : l.length ≤ 1125899906842624) : ∀ l' p r, smallS l l' = some (p, r) → p → AF Tryd.prog (gl0 m) 14 l' r := by
  intro l' p r h hp
  unfold smallS at h
  split at h
  · simp only [Option.some.injEq, Prod.mk.injEq] at h; obtain ⟨rfl, rfl⟩ := h
    subst hp
    exact small_AF l h2 h3
  · cases h
end Go.Proofs.YtbhingdlclfipaaDoor.Ab
