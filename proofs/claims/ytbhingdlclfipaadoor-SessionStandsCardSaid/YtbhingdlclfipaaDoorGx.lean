/- The layer session, part 23: what is the same is told to be. -/
import Derived.Test.YtbhingdlclfipaaDoorGw
namespace Go.Proofs.YtbhingdlclfipaaDoor.Ab
open Go Go.RowKit Go.Proofs
set_option linter.unusedVariables false
set_option linter.unusedSimpArgs false
variable {m : Int}
def intC (w : Int) : List D := [.v (.int .i64 w)]
structure NOK (n : Nt) : Prop where
  its : ∃ its : List It, n.items = its.map It.d ∧ its.length ≤ 1125899906842624
  cds : ∃ cds : List Int, n.codes = cds.map intC ∧ cds.length ≤ 1125899906842624
set_option maxRecDepth 100000 in
set_option maxHeartbeats 4000000 in
theorem nsame_AF (n : Nt) (h : NOK n) : AF Tryd.prog (gl0 m) 56 [.agg n.d, .agg n.d] (.one (.v (.bool true))) := by
  refine AF_by SpOK.none mixed F56_ok ?_
  obtain ⟨⟨its, hi, hil⟩, ⟨cds, hc, hcl⟩⟩ := h
  obtain ⟨k, xn, xt, xd, xc, xs, xi, xtm, xo, items, codes⟩ := n
  simp only at hi hc
  have hlen : items.length = its.length := by rw [hi]; simp
  have hget : ∀ (i : Nat) (a : It), its[i]? = some a → items[i]? = some a.d := fun i a h => by rw [hi, List.getElem?_map, h]; rfl
  have clen : codes.length = cds.length := by rw [hc]; simp
  have cget : ∀ (i : Nat) (a : Int), cds[i]? = some a → codes[i]? = some [.v (.int .i64 a)] := fun i a h => by rw [hc, List.getElem?_map, h]; rfl
  clear hi hc
  simp [F56, Nt.d]
  refine awp_loop (fun k' S => ∃ i, i + k' = its.length ∧ S.env 2 = some (.one (.ptr 0 0)) ∧ S.env 3 = some (.one (.ptr 1 0)) ∧ S.env 5 = some (.one (.v (.int .i64 (i : Nat)))) ∧ (S.va 2 ∧ S.va 3 ∧ S.va 5) ∧
    S.bx 0 = some (.cells 37 [.v (.int .i64 k), .v (.string xn), .v (.string xt), .v (.string xd), .v (.int .i64 xc), .v (.int .i64 xs), .v (.int .i64 xi), .v (.int .i64 xtm), .v (.bool xo), .sl .no 6 items, .sl .no 1 codes]) ∧
    S.bx 1 = some (.cells 37 [.v (.int .i64 k), .v (.string xn), .v (.string xt), .v (.string xd), .v (.int .i64 xc), .v (.int .i64 xs), .v (.int .i64 xi), .v (.int .i64 xtm), .v (.bool xo), .sl .no 6 items, .sl .no 1 codes]) ∧ 1 < S.nx) ⟨its.length, 0, ?_⟩ ?_
  · simp
  rintro k' S ⟨i, hik, e2, e3, e5, ⟨u2, u3, u5⟩, hb0, hb1, hnx⟩
  have q0 : ∀ x y z : Nat, (0 : Nat) < S.nx + x + y + z := fun _ _ _ => by omega
  have q0' : ∀ x y : Nat, (0 : Nat) < S.nx + x + y := fun _ _ => by omega
  have q0'' : ∀ x : Nat, (0 : Nat) < S.nx + x := fun _ => by omega
  have q1 : ∀ x y z : Nat, (1 : Nat) < S.nx + x + y + z := fun _ _ _ => by omega
  have q1' : ∀ x y : Nat, (1 : Nat) < S.nx + x + y := fun _ _ => by omega
  have q1'' : ∀ x : Nat, (1 : Nat) < S.nx + x := fun _ => by omega
  have hne : ∀ k, k ≤ 1 → (S.nx = k) = False := fun k hk => eq_false (by omega)
  by_cases hi : i < its.length
  · have hgi := hget i its[i] (List.getElem?_eq_getElem hi)
    generalize its[i] = a at *
    obtain ⟨an, ag, ai, aty, aa, aw⟩ := a
    simp only [It.d] at hgi
    have hi' : i < items.length := by omega
    have hgi' := (List.getElem?_eq_some_iff.1 hgi).2
    have w7 : IntKind.i64.wrap ((i : Int) + 1) = ((i + 1 : Nat) : Int) := by rw [wrap_small _ (by omega) (by omega)]; omega
    simp [e2, e3, e5, u2, u3, u5, hb0, hb1, hnx, hne, q0, q0', q0'', q1, q1', q1'', hi, hi', hlen, hgi, hgi', w7, -Int.natCast_add]
    exact ⟨k' - 1, by omega, i + 1, by omega, rfl⟩
  · simp [e2, e3, e5, u2, u3, u5, hb0, hb1, hnx, hne, q0, q0', q0'', q1, q1', q1'', hi, hlen]
    refine awp_loop (fun k' S => ∃ i, i + k' = cds.length ∧ S.env 2 = some (.one (.ptr 0 0)) ∧ S.env 3 = some (.one (.ptr 1 0)) ∧ S.env 6 = some (.one (.v (.int .i64 (i : Nat)))) ∧ (S.va 2 ∧ S.va 3 ∧ S.va 6) ∧
      S.bx 0 = some (.cells 37 [.v (.int .i64 k), .v (.string xn), .v (.string xt), .v (.string xd), .v (.int .i64 xc), .v (.int .i64 xs), .v (.int .i64 xi), .v (.int .i64 xtm), .v (.bool xo), .sl .no 6 items, .sl .no 1 codes]) ∧
      S.bx 1 = some (.cells 37 [.v (.int .i64 k), .v (.string xn), .v (.string xt), .v (.string xd), .v (.int .i64 xc), .v (.int .i64 xs), .v (.int .i64 xi), .v (.int .i64 xtm), .v (.bool xo), .sl .no 6 items, .sl .no 1 codes]) ∧ 1 < S.nx) ⟨cds.length, 0, ?_⟩ ?_
    · simp [e2, e3, u2, u3, hb0, hb1]
    clear e2 e3 e5 u2 u3 u5 hb0 hb1 hnx q0 q0' q0'' q1 q1' q1'' hne
    clear hi hik i
    clear S
    rintro k' S ⟨i, hik, e2, e3, e6, ⟨u2, u3, u6⟩, hb0, hb1, hnx⟩
    have q0 : ∀ x y z : Nat, (0 : Nat) < S.nx + x + y + z := fun _ _ _ => by omega
    have q0' : ∀ x y : Nat, (0 : Nat) < S.nx + x + y := fun _ _ => by omega
    have q0'' : ∀ x : Nat, (0 : Nat) < S.nx + x := fun _ => by omega
    have q1 : ∀ x y z : Nat, (1 : Nat) < S.nx + x + y + z := fun _ _ _ => by omega
    have q1' : ∀ x y : Nat, (1 : Nat) < S.nx + x + y := fun _ _ => by omega
    have q1'' : ∀ x : Nat, (1 : Nat) < S.nx + x := fun _ => by omega
    have hne : ∀ k, k ≤ 1 → (S.nx = k) = False := fun k hk => eq_false (by omega)
    by_cases hi : i < cds.length
    · have hgi := cget i cds[i] (List.getElem?_eq_getElem hi)
      generalize cds[i] = a at *
      have hi' : i < codes.length := by omega
      have hgi' := (List.getElem?_eq_some_iff.1 hgi).2
      have w7 : IntKind.i64.wrap ((i : Int) + 1) = ((i + 1 : Nat) : Int) := by rw [wrap_small _ (by omega) (by omega)]; omega
      simp [e2, e3, e6, u2, u3, u6, hb0, hb1, hnx, hne, q0, q0', q0'', q1, q1', q1'', hi, hi', clen, hgi, hgi', w7, -Int.natCast_add]
      exact ⟨k' - 1, by omega, i + 1, by omega, rfl⟩
    · simp [e2, e3, e6, u2, u3, u6, hb0, hb1, hnx, hne, q0, q0', q0'', q1, q1', q1'', hi, clen]
def NtOK (a : List D) : Prop := ∃ n : Nt, a = n.d ∧ NOK n
def nsameS : List A → Option (Prop × A)
  | [.agg a, .agg b] => some (a = b ∧ NtOK a, .one (.v (.bool true)))
  | _ => none
theorem nsameS_ok : ∀ l p r, nsameS l = some (p, r) → p → AF Tryd.prog (gl0 m) 56 l r := by
  intro l p r h hp
  unfold nsameS at h
  split at h
  · simp only [Option.some.injEq, Prod.mk.injEq] at h; obtain ⟨rfl, rfl⟩ := h
    obtain ⟨rfl, n, rfl, hn⟩ := hp
    exact nsame_AF n hn
  · cases h
set_option maxHeartbeats 4000000 in
theorem list_AF (l : List Nt) (hl : l.length ≤ 1000) (h : ∀ n ∈ l, NOK n) : AF Tryd.prog (gl0 m) 33 [.one (.sl .no 11 (l.map Nt.d)), .one (.sl .no 11 (l.map Nt.d))] (.one (.v (.bool true))) := by
  refine AF_by (SpOK.cons nsameS_ok SpOK.none) mixed F33_ok ?_
  have hlen : (l.map Nt.d).length = l.length := List.length_map _
  have hget : ∀ (i : Nat) (a : Nt), l[i]? = some a → (l.map Nt.d)[i]? = some a.d := fun i a h => by rw [List.getElem?_map, h]; rfl
  generalize l.map Nt.d = xs at *
  simp [F33]
  refine awp_loop (fun k' S => ∃ i, i + k' = l.length ∧ S.env 0 = some (.one (.sl .no 11 xs)) ∧ S.env 1 = some (.one (.sl .no 11 xs)) ∧ S.env 5 = some (.one (.v (.int .i64 (i : Nat)))) ∧ (S.va 0 ∧ S.va 1 ∧ S.va 5)) ⟨l.length, 0, ?_⟩ ?_
  · simp
  rintro k' S ⟨i, hik, e0, e1, e5, ⟨u0, u1, u5⟩⟩
  by_cases hi : i < l.length
  · have hgi := hget i l[i] (List.getElem?_eq_getElem hi)
    have hok := h l[i] (List.getElem_mem hi)
    generalize l[i] = a at *
    have hnd : a.d = [.v (.int .i64 a.kind), .v (.string a.name), .v (.string a.text), .v (.string a.data), .v (.int .i64 a.code), .v (.int .i64 a.status), .v (.int .i64 a.idle), .v (.int .i64 a.time), .v (.bool a.ok), .sl .no 6 a.items, .sl .no 1 a.codes] := rfl
    have hat : NtOK [.v (.int .i64 a.kind), .v (.string a.name), .v (.string a.text), .v (.string a.data), .v (.int .i64 a.code), .v (.int .i64 a.status), .v (.int .i64 a.idle), .v (.int .i64 a.time), .v (.bool a.ok), .sl .no 6 a.items, .sl .no 1 a.codes] := ⟨a, rfl, hok⟩
    have hi' : i < xs.length := by omega
    have hgi' := (List.getElem?_eq_some_iff.1 hgi).2
    have w7 : IntKind.i64.wrap ((i : Int) + 1) = ((i + 1 : Nat) : Int) := by rw [wrap_small _ (by omega) (by omega)]; omega
    simp [e0, e1, e5, u0, u1, u5, hi, hi', hlen, hgi, hgi', hnd, hat, nsameS, w7, -Int.natCast_add]
    exact ⟨k' - 1, by omega, i + 1, by omega, rfl⟩
  · simp [e0, e1, e5, u0, u1, u5, hi, hlen]
def ListOK (xs : List (List D)) : Prop := ∃ l : List Nt, xs = l.map Nt.d ∧ l.length ≤ 1000 ∧ ∀ n ∈ l, NOK n
def listS : List A → Option (Prop × A)
  | [.one (.sl .no 11 xs), .one (.sl .no 11 ys)] => some (xs = ys ∧ ListOK xs, .one (.v (.bool true)))
  | _ => none
theorem listS_ok : ∀ l p r, listS l = some (p, r) → p → AF Tryd.prog (gl0 m) 33 l r := by
  intro l p r h hp
  unfold listS at h
  split at h
  · simp only [Option.some.injEq, Prod.mk.injEq] at h; obtain ⟨rfl, rfl⟩ := h
    obtain ⟨rfl, l, rfl, h1, h2⟩ := hp
    exact list_AF l h1 h2
  · cases h
structure SOK (o : Sd) : Prop where
  notes : ListOK (o.notes.map Nt.d)
  up : ListOK (o.up.map Nt.d)
theorem ssame_AF (o : Sd) (h : SOK o) : AF Tryd.prog (gl0 m) 16 [.agg o.d, .agg o.d] (.one (.v (.bool true))) := by
  refine AF_by (SpOK.cons listS_ok SpOK.none) mixed F16_ok ?_
  have h1 := h.notes
  have h2 := h.up
  simp [F16, Sd.d, listS, h1, h2]
def SdOK (a : List D) : Prop := ∃ o : Sd, a = o.d ∧ SOK o
def ssameS : List A → Option (Prop × A)
  | [.agg a, .agg b] => some (a = b ∧ SdOK a, .one (.v (.bool true)))
  | _ => none
theorem ssameS_ok : ∀ l p r, ssameS l = some (p, r) → p → AF Tryd.prog (gl0 m) 16 l r := by
  intro l p r h hp
  unfold ssameS at h
  split at h
  · simp only [Option.some.injEq, Prod.mk.injEq] at h; obtain ⟨rfl, rfl⟩ := h
    obtain ⟨rfl, o, rfl, ho⟩ := hp
    exact ssame_AF o ho
  · cases h
/-! ### what a step says is well made -/
theorem nok_of (n : Nt) (h1 : n.items = []) (h2 : n.codes = []) : NOK n := ⟨⟨[], by rw [h1]; rfl, by simp⟩, ⟨[], by rw [h2]; rfl, by simp⟩⟩
theorem listOK_of (l : List Nt) (h1 : l.length ≤ 1000) (h : ∀ n ∈ l, NOK n) : ListOK (l.map Nt.d) := ⟨l, rfl, h1, h⟩
theorem sok_no : SOK noS := ⟨listOK_of _ (by simp [noS]) (by simp [noS]), listOK_of _ (by simp [noS]) (by simp [noS])⟩
theorem sok_of (ns us : List Nt) (f : Bool) (h1 : ns.length ≤ 1000) (h2 : us.length ≤ 1000) (h3 : ∀ n ∈ ns, NOK n) (h4 : ∀ n ∈ us, NOK n) : SOK ⟨ns, f, us⟩ := ⟨listOK_of _ h1 h3, listOK_of _ h2 h4⟩
theorem sok_take (s : Ses) (n : Nt) (hn : NOK n) : SOK (takeP s n).2 := by
  unfold takeP
  repeat' split
  all_goals first
    | exact sok_no
    | (refine sok_of _ _ _ (by simp) (by simp) ?_ ?_ <;> (intro x hx; simp only [List.mem_cons, List.not_mem_nil, or_false] at hx <;> first | (cases hx; done) | (subst hx; first | exact hn | exact nok_of _ rfl rfl) | (rcases hx with rfl | rfl <;> exact nok_of _ rfl rfl)))
theorem sok_does (s : Ses) (a : Act) (hn : NOK a.n) : SOK (doesP s a).2 := by
  unfold doesP
  split
  · exact sok_take s a.n hn
  split
  · unfold tickP
    repeat' split
    all_goals first
      | exact sok_no
      | (refine sok_of _ _ _ (by simp) (by simp) ?_ ?_ <;> (intro x hx; simp only [List.mem_cons, List.not_mem_nil, or_false] at hx <;> first | (cases hx; done) | (subst hx; exact nok_of _ rfl rfl)))
  split
  · unfold stopP
    repeat' split
    all_goals first
      | exact sok_no
      | (refine sok_of _ _ _ (by simp) (by simp) ?_ ?_ <;> (intro x hx; simp only [List.mem_cons, List.not_mem_nil, or_false] at hx <;> first | (cases hx; done) | (subst hx; exact nok_of _ rfl rfl)))
  · exact sok_no
end Go.Proofs.YtbhingdlclfipaaDoor.Ab
