/- The layer subs, part 9: the law SubsSeen, walked. -/
import Derived.Test.YtmhhpcjiejpcfaaDoorFh
namespace Go.Proofs.YtmhhpcjiejpcfaaDoor.Ab
open Go Go.RowKit Go.Proofs
set_option linter.unusedVariables false
set_option linter.unusedSimpArgs false
variable (m : Int)
def Act.of : List D → Option Act
  | .v (.int .i64 k) :: .v (.string s) :: .v (.string a) :: .v (.string g) :: r => (Note.of (r.take 11)).bind fun n => (Deal.of ((r.drop 11).take 6)).bind fun x => (Item.of ((r.drop 11).drop 6)).map fun i => ⟨k, s, a, g, n, x, i⟩
  | _ => none
theorem Act.of_d {cs : List D} {c : Act} (h : Act.of cs = some c) : cs = c.d := by
  unfold Act.of at h
  split at h
  · rename_i k s a g r
    obtain ⟨n, hn, h⟩ := bind_some h
    obtain ⟨x, hx, h⟩ := bind_some h
    obtain ⟨i, hi, h⟩ := map_some h
    subst h
    have e : r = r.take 11 ++ ((r.drop 11).take 6 ++ (r.drop 11).drop 6) := by rw [List.take_append_drop 6 (r.drop 11), List.take_append_drop]
    show _ = D.v (.int .i64 k) :: D.v (.string s) :: D.v (.string a) :: D.v (.string g) :: (n.d ++ (x.d ++ i.d))
    rw [← Note.of_d hn, ← Deal.of_d hx, ← Item.of_d hi, ← e]
  · cases h
theorem Act.of_eq (a : Act) : Act.of a.d = some a := by
  obtain ⟨kind, s, al, gr, ⟨k', xn, xt, xd, xc, xs', xi, xtm, xo, items, codes⟩, ⟨⟨wk, wn, wa, wg, ww⟩, xcode⟩, ⟨iname, ig, ii, ity, ia, iw⟩⟩ := a
  simp [Act.of, Act.d, Note.d, Deal.d, Wish.d, Item.d, Note.of, Deal.of, Item.of]
def doesS : List A → Option (Prop × A)
  | [.agg cs, .agg ns] => (Contact.of cs).bind fun c => (Act.of ns).map fun a => (c.name.size ≤ 1000000 ∧ a.n.name.size ≤ 1000000 ∧ a.x.wish.name.size ≤ 1000000 ∧ a.it.name.size ≤ 1000000, tup2 (doesP c a))
  | _ => none
theorem doesS_ok : ∀ l p r, doesS l = some (p, r) → p → AF Tryd.prog (gl0 m) 14 l r := by
  intro l p r h hp
  unfold doesS at h
  split at h
  · obtain ⟨c, hc, h⟩ := bind_some h
    obtain ⟨n, hn, h⟩ := map_some h
    simp only [Prod.mk.injEq] at h; obtain ⟨rfl, rfl⟩ := h
    rw [Contact.of_d hc, Act.of_d hn]
    exact does_AF m c n hp.1 hp.2.1 hp.2.2.1 hp.2.2.2
  · cases h
/-- small, at this list alone. -/
def smallS (c0 : Contact) (l : List Act) : List A → Option (Prop × A)
  | [.agg cs, .one (.sl .no 27 xs)] => some (cs = c0.d ∧ xs = l.map Act.d, .one (.v (.bool (smallP c0 l))))
  | _ => none
theorem smallS_ok (c : Contact) (l : List Act) (h1 : c.name.size ≤ 1125899906842624) (h2 : ∀ a ∈ l, a.len ≤ 1125899906842624) (h3 : l.length ≤ 1125899906842624) : ∀ l' p r, smallS c l l' = some (p, r) → p → AF Tryd.prog (gl0 m) 13 l' r := by
  intro l' p r h hp
  unfold smallS at h
  split at h
  · simp only [Option.some.injEq, Prod.mk.injEq] at h; obtain ⟨rfl, rfl⟩ := h
    obtain ⟨rfl, rfl⟩ := hp
    exact small_AF m c l h1 h2 h3
  · cases h
def seenSp (c0 : Contact) (l : List Act) : Sp := spc 13 (smallS c0 l) (spc 14 doesS lawSp2)
theorem seenSp_ok (c : Contact) (l : List Act) (h1 : c.name.size ≤ 1125899906842624) (h2 : ∀ a ∈ l, a.len ≤ 1125899906842624) (h3 : l.length ≤ 1125899906842624) : SpOK Tryd.prog (gl0 m) (seenSp c l) :=
  SpOK.cons (smallS_ok m c l h1 h2 h3) (SpOK.cons (doesS_ok m) (lawSp2_ok m))
/-- Was it there so far? -/
def SoFar (q : ByteArray) (l : List ByteArray) (j : Nat) (b : Bool) : Prop := q ∈ l.take j → b = true
theorem SoFar.zero {q : ByteArray} {l : List ByteArray} {b : Bool} : SoFar q l 0 b := fun h => by simp at h
theorem Contact.of_eq (c : Contact) : Contact.of c.d = some c := rfl
set_option maxRecDepth 100000 in
set_option maxHeartbeats 4000000 in
theorem sees_AF (c0 : Contact) (l : List Act) (h1 : c0.name.size ≤ 1125899906842624) (h2 : ∀ a ∈ l, a.len ≤ 1125899906842624) (h3 : l.length ≤ 1125899906842624) :
    AF Tryd.prog (gl0 m) 5 [.agg c0.d, .one (.sl .no 27 (l.map Act.d))] (.one (.v (.bool true))) := by
  refine AF_by (seenSp_ok m c0 l h1 h2 h3) mixed F5_ok ?_
  by_cases hs : smallP c0 l = true
  · have hs' := hs
    simp only [smallP, decide_eq_true_eq] at hs'
    have hmem := smallGo_mem l c0.name.size 0 (by omega) hs'.2
    have hcn := Nat.le_trans (smallGo_le l c0.name.size 0) hs'.2
    have hcd : ∀ c : Contact, c.d = [.v (.string c.name), .v (.bool c.sub), .v (.bool c.pend), .v (.bool c.await), .v (.bool c.frm), .v (.bool c.ask), .v (.bool c.on), .v (.int .i64 c.status), .v (.int .i64 c.idle)] := fun _ => rfl
    simp [F5, seenSp, smallS, hcd, hs]
    have hlen : (l.map Act.d).length = l.length := List.length_map _
    have hget : ∀ (i : Nat) (a : Act), l[i]? = some a → (l.map Act.d)[i]? = some a.d := fun i a h => by rw [List.getElem?_map, h]; rfl
    generalize l.map Act.d = xs at *
    refine awp_loop (fun k S => ∃ i c, i + k = l.length ∧ c.name = c0.name ∧ S.env 1 = some (.one (.sl .no 27 xs)) ∧ S.env 2 = some (.one (.ptr 0 0)) ∧ S.env 5 = some (.one (.v (.int .i64 (i : Nat)))) ∧ S.va 1 ∧ S.va 2 ∧ S.va 5 ∧ S.bx 0 = some (.cells 23 c.d) ∧ 0 < S.nx) ⟨l.length, 0, c0, ?_⟩ ?_
    · simp [hcd]
    rintro k S ⟨i, c, hik, hcname, e1, e2, e5, v1, v2, v5, hb, hnx⟩
    by_cases hi : i < l.length
    · have ha2 := hmem l[i] (List.getElem_mem hi)
      have hgi := hget i l[i] (List.getElem?_eq_getElem hi)
      have hgood := good_does c l[i]
      have hofa := Act.of_eq l[i]
      have had : l[i].d.length = 27 := by
        generalize l[i] = a
        obtain ⟨kind, s, al, gr, ⟨k', xn, xt, xd, xc, xs', xi, xtm, xo, items, codes⟩, ⟨⟨wk, wn, wa, wg, ww⟩, xcode⟩, ⟨iname, ig, ii, ity, ia, iw⟩⟩ := a
        rfl
      have hclo : cloL l[i].d = some l[i].d := by
        generalize l[i] = a
        obtain ⟨kind, s, al, gr, ⟨k', xn, xt, xd, xc, xs', xi, xtm, xo, items, codes⟩, ⟨⟨wk, wn, wa, wg, ww⟩, xcode⟩, ⟨iname, ig, ii, ity, ia, iw⟩⟩ := a
        rfl
      generalize l[i] = a at *
      generalize hq : doesP c a = q at *
      obtain ⟨d, t⟩ := q
      have hi' : i < xs.length := by omega
      have hgi' := (List.getElem?_eq_some_iff.1 hgi).2
      have htk : List.take 27 a.d = a.d := List.take_of_length_le (by omega)
      simp only [Act.len] at ha2
      have s1 : c.name.size ≤ 1000000 := by rw [hcname]; omega
      have s2 : a.n.name.size ≤ 1000000 := by omega
      have s3 : a.x.wish.name.size ≤ 1000000 := by omega
      have s4 : a.it.name.size ≤ 1000000 := by omega
      simp [e1, e2, e5, v1, v2, v5, hb, hi, hi', hlen, hgi, hgi', htk, had, hclo, hcd c, hcd d, doesS, hofa, Contact.of, hq, tup2, Turn.d, s1, s2, s3, s4]
      simp only at hgood
      have hpl : (t.pres.map strD).length = t.pres.length := List.length_map _
      have hpg : ∀ (i : Nat) (p : ByteArray), t.pres[i]? = some p → (t.pres.map strD)[i]? = some (strD p) := fun i a h => by rw [List.getElem?_map, h]; rfl
      generalize t.pres.map strD = ps at *
      refine awp_loop (fun k' S' => ∃ j may nt n1 n2, j + k' = t.pres.length ∧ SoFar kSubd t.pres j may ∧ SoFar kUnsubd t.pres j nt ∧ S'.env 1 = some (.one (.sl .no 27 xs)) ∧ S'.env 2 = some (.one (.ptr 0 0)) ∧ S'.env 5 = some (.one (.v (.int .i64 (i : Nat)))) ∧
        S'.env 6 = some (.one (.ptr n1 0)) ∧ S'.env 7 = some (.one (.ptr n2 0)) ∧ S'.env 8 = some (.one (.v (.bool may))) ∧ S'.env 9 = some (.one (.v (.bool nt))) ∧ S'.env 10 = some (.one (.v (.int .i64 (j : Nat)))) ∧
        (S'.va 1 ∧ S'.va 2 ∧ S'.va 5 ∧ S'.va 6 ∧ S'.va 7 ∧ S'.va 8 ∧ S'.va 9 ∧ S'.va 10) ∧ S'.bx 0 = some (.cells 23 c.d) ∧ S'.bx n1 = some (.cells 23 d.d) ∧ S'.bx n2 = some (.cells 29 [.sl .no 1 ps, .sl .no 11 (t.notes.map Note.d), .sl .no 5 (t.wishes.map Wish.d)]) ∧ 0 < S'.nx) ⟨t.pres.length, 0, false, false, S.nx + 4 + 9, S.nx + 4 + 10, ?_⟩ ?_
      · simp [e1, e2, e5, v1, v2, v5, hb, hcd, SoFar.zero]
      rintro k' S' ⟨j, may, nt, n1, n2, hjk, hmay, hnt, e1', e2', e5', e6', e7', e8', e9', e10', ⟨v1', v2', v5', v6', v7', v8', v9', v10'⟩, hb0, hb1, hb2, hnx'⟩
      by_cases hj : j < t.pres.length
      · have hp := hgood.pres t.pres[j] (List.getElem_mem hj)
        have htake := List.take_succ_eq_append_getElem hj
        have hpg1 := hpg j t.pres[j] (List.getElem?_eq_getElem hj)
        generalize t.pres[j] = p at *
        have hj' : j < ps.length := by omega
        have hpg1' := (List.getElem?_eq_some_iff.1 hpg1).2
        have hl3 := hgood.len
        have w7 : IntKind.i64.wrap ((j : Int) + 1) = (j : Int) + 1 := wrap_small _ (by omega) (by omega)
        have step : ∀ b1 b2 : Bool, (p = kSubd → b1 = true) → (p = kUnsubd → b2 = true) → SoFar kSubd t.pres (j + 1) (may || b1) ∧ SoFar kUnsubd t.pres (j + 1) (nt || b2) := by
          intro b1 b2 h1 h2
          unfold SoFar
          rw [htake]
          refine ⟨fun h => ?_, fun h => ?_⟩
          · rcases List.mem_append.1 h with h | h
            · simp [hmay h]
            · simp [h1 (List.mem_singleton.1 h).symm]
          · rcases List.mem_append.1 h with h | h
            · simp [hnt h]
            · simp [h2 (List.mem_singleton.1 h).symm]
        rcases hp with ⟨rfl, q1, q2⟩ | ⟨rfl, q1, q2⟩ | rfl | rfl | rfl
        · have st := step false false (by decide) (by decide)
          simp only [Bool.or_false] at st
          simp [e1', e2', e5', e6', e7', e8', e9', e10', v1', v2', v5', v6', v7', v8', v9', v10', hb0, hb1, hb2, hcd c, hcd d, hj, hj', hpl, hpg1', hpg1, strD, kNone, w7, q1, q2]
          refine ⟨k' - 1, by omega, j + 1, by omega, ?_⟩
          obtain ⟨st1, st2⟩ := st
          have hcast : ((j : Int) + 1) = ((j + 1 : Nat) : Int) := by omega
          try simp only [kSubd] at st1
          try simp only [kUnsubd] at st2
          try simp only [kSubd, kUnsubd]
          cases may <;> cases nt <;> simp [st1, st2]
        · have st := step false false (by decide) (by decide)
          simp only [Bool.or_false] at st
          simp [e1', e2', e5', e6', e7', e8', e9', e10', v1', v2', v5', v6', v7', v8', v9', v10', hb0, hb1, hb2, hcd c, hcd d, hj, hj', hpl, hpg1', hpg1, strD, kUnav, w7, q1, q2]
          refine ⟨k' - 1, by omega, j + 1, by omega, ?_⟩
          obtain ⟨st1, st2⟩ := st
          have hcast : ((j : Int) + 1) = ((j + 1 : Nat) : Int) := by omega
          try simp only [kSubd] at st1
          try simp only [kUnsubd] at st2
          try simp only [kSubd, kUnsubd]
          cases may <;> cases nt <;> simp [st1, st2]
        · have st := step false false (by decide) (by decide)
          simp only [Bool.or_false] at st
          simp [e1', e2', e5', e6', e7', e8', e9', e10', v1', v2', v5', v6', v7', v8', v9', v10', hb0, hb1, hb2, hcd c, hcd d, hj, hj', hpl, hpg1', hpg1, strD, kSub, w7]
          refine ⟨k' - 1, by omega, j + 1, by omega, ?_⟩
          obtain ⟨st1, st2⟩ := st
          have hcast : ((j : Int) + 1) = ((j + 1 : Nat) : Int) := by omega
          try simp only [kSubd] at st1
          try simp only [kUnsubd] at st2
          try simp only [kSubd, kUnsubd]
          cases may <;> cases nt <;> simp [st1, st2]
        · have st := step true false (by decide) (by decide)
          simp only [Bool.or_false, Bool.or_true] at st
          simp [e1', e2', e5', e6', e7', e8', e9', e10', v1', v2', v5', v6', v7', v8', v9', v10', hb0, hb1, hb2, hcd c, hcd d, hj, hj', hpl, hpg1', hpg1, strD, kSubd, w7]
          refine ⟨k' - 1, by omega, j + 1, by omega, ?_⟩
          obtain ⟨st1, st2⟩ := st
          have hcast : ((j : Int) + 1) = ((j + 1 : Nat) : Int) := by omega
          try simp only [kSubd] at st1
          try simp only [kUnsubd] at st2
          try simp only [kSubd, kUnsubd]
          cases may <;> cases nt <;> simp [st1, st2]
        · have st := step false true (by decide) (by decide)
          simp only [Bool.or_false, Bool.or_true] at st
          simp [e1', e2', e5', e6', e7', e8', e9', e10', v1', v2', v5', v6', v7', v8', v9', v10', hb0, hb1, hb2, hcd c, hcd d, hj, hj', hpl, hpg1', hpg1, strD, kUnsubd, w7]
          refine ⟨k' - 1, by omega, j + 1, by omega, ?_⟩
          obtain ⟨st1, st2⟩ := st
          have hcast : ((j : Int) + 1) = ((j + 1 : Nat) : Int) := by omega
          try simp only [kSubd] at st1
          try simp only [kUnsubd] at st2
          try simp only [kSubd, kUnsubd]
          cases may <;> cases nt <;> simp [st1, st2]
      · have hje : t.pres.take j = t.pres := List.take_of_length_le (by omega)
        unfold SoFar at hmay hnt
        rw [hje] at hmay hnt
        obtain ⟨g1, g2, g3, g4, g5, g6, g7⟩ := hgood
        obtain ⟨kind, s, al, gr, ⟨k1, xn, xt, xd, xc, xs', xi, xtm, xo, items, codes⟩, ⟨⟨wk, wn, wa, wg, ww⟩, xcode⟩, ⟨iname, ig, ii, ity, ia, iw⟩⟩ := a
        simp only [Act.d, Note.d, Deal.d, Wish.d, Item.d, List.cons_append, List.nil_append] at hgi hgi' g3
        simp [hgi, hgi', e1', e2', e5', e6', e7', e8', e9', e10', v1', v2', v5', v6', v7', v8', v9', v10', hb0, hb1, hb2, hcd c, hcd d, hj, hpl, hlen, hi']
        have hA : d.sub = true → c.sub = false → may = true := fun q1 q2 => hmay (g2 q1 q2)
        have hB : d.sub = false → c.sub = true → nt = false → kind = 3 ∧ iw = true := by
          intro q1 q2 q3
          rcases g3 q1 q2 with h | h
          · rw [hnt h] at q3; cases q3
          · simpa using h
        have w7 : IntKind.i64.wrap ((i : Int) + 1) = (i : Int) + 1 := wrap_small _ (by omega) (by omega)
        have hfin : (d.name = c.name) ∧ ((t.wishes.length : Int) ≤ 1) ∧ ((t.notes.length : Int) ≤ 1) := ⟨g4, by omega, by omega⟩
        have hinv : ∃ m, m < k ∧ ∃ i_1, i_1 + m = l.length ∧ ∃ x : Contact, x.name = c0.name ∧ IntKind.i64.wrap ((i : Int) + 1) = ((i_1 : Nat) : Int) ∧ d.d = x.d := ⟨k - 1, by omega, i + 1, by omega, d, g4.trans hcname, by rw [w7]; omega, rfl⟩
        generalize hQ : (d.sub = true → c.sub = false → may = true) = Q at *
        refine ⟨⟨fun _ => ⟨hA, fun q => ⟨hA, q⟩⟩, fun _ => ⟨hA, fun q q2 => ⟨hA, q, q2⟩⟩, fun _ q q2 q3 => ⟨⟨hA, ⟨q, q2⟩, q3⟩, hi⟩, fun _ q q2 q3 q4 => ⟨⟨⟨hA, ⟨q, q2⟩, q3⟩, q4⟩, hi⟩, fun _ q q2 q3 => ⟨⟨hA, ⟨q, q2⟩, q3⟩, fun q4 => ⟨⟨hA, ⟨q, q2⟩, q3⟩, q4⟩⟩, fun _ => ⟨hA, fun q q2 q3 => ⟨hA, ⟨q, q2⟩, q3⟩⟩⟩, ⟨⟨⟨⟨hA, hB⟩, hfin.1⟩, hfin.2.1⟩, hfin.2.2⟩, hinv⟩
    · simp [e1, e2, e5, v1, v2, v5, hb, hi, hlen, lawSp2, liveS]
  · simp [F5, seenSp, smallS, Contact.d, hs, lawSp2, liveS]
def actT : List Ty := [.int .i64, .str, .str, .str, .int .i64, .str, .str, .str, .int .i64, .int .i64, .int .i64, .int .i64, .bool, .sl 51, .sl 3, .int .i64, .str, .str, .str, .bool, .int .i64, .str, .int .i64, .int .i64, .int .i64, .str, .bool]
def itemT : List Ty := [.str, .int .i64, .int .i64, .int .i64, .str, .bool]
theorem leaves53 : leaves Tryd.prog 4 53 = some actT := by kernel_rfl
theorem leaves51 : leaves Tryd.prog 4 51 = some itemT := by kernel_rfl
theorem leaves3 : leaves Tryd.prog 4 3 = some [.int .i64] := by kernel_rfl
theorem act_of {B : Nat} {ds : List D} (h : OkL Tryd.prog B actT ds) : ∃ a : Act, ds = a.d ∧ a.len ≤ 6 * B := by
  unfold actT at h
  obtain ⟨kind, d1, rfl, _, h1⟩ := okl_int h
  obtain ⟨s, d2, rfl, b1, h2⟩ := okl_str h1
  obtain ⟨al, d3, rfl, b2, h3⟩ := okl_str h2
  obtain ⟨gr, d4, rfl, b3, h4⟩ := okl_str h3
  obtain ⟨k, d5, rfl, _, h5⟩ := okl_int h4
  obtain ⟨xn, d6, rfl, b4, h6⟩ := okl_str h5
  obtain ⟨xt, d7, rfl, _, h7⟩ := okl_str h6
  obtain ⟨xd, d8, rfl, _, h8⟩ := okl_str h7
  obtain ⟨xc, d9, rfl, _, h9⟩ := okl_int h8
  obtain ⟨xs, d10, rfl, _, h10⟩ := okl_int h9
  obtain ⟨xi, d11, rfl, _, h11⟩ := okl_int h10
  obtain ⟨xtm, d12, rfl, _, h12⟩ := okl_int h11
  obtain ⟨xo, d13, rfl, h13⟩ := okl_bool h12
  obtain ⟨n1, u1, items, d14, rfl, l1, _, _, h14⟩ := okl_sl h13
  obtain ⟨n2, u2, codes, d15, rfl, l2, _, _, h15⟩ := okl_sl h14
  obtain ⟨wk, d16, rfl, _, h16⟩ := okl_int h15
  obtain ⟨wn, d17, rfl, b5, h17⟩ := okl_str h16
  obtain ⟨wa, d18, rfl, _, h18⟩ := okl_str h17
  obtain ⟨wg, d19, rfl, _, h19⟩ := okl_str h18
  obtain ⟨ww, d20, rfl, h20⟩ := okl_bool h19
  obtain ⟨xcode, d21, rfl, _, h21⟩ := okl_int h20
  obtain ⟨iname, d22, rfl, b6, h22⟩ := okl_str h21
  obtain ⟨ig, d23, rfl, _, h23⟩ := okl_int h22
  obtain ⟨ii, d24, rfl, _, h24⟩ := okl_int h23
  obtain ⟨ity, d25, rfl, _, h25⟩ := okl_int h24
  obtain ⟨ia, d26, rfl, _, h26⟩ := okl_str h25
  obtain ⟨iw, d27, rfl, h27⟩ := okl_bool h26
  obtain rfl := h27.nil_inv
  have e1 := leaves_eq l1 leaves51
  have e2 := leaves_eq l2 leaves3
  subst e1; subst e2
  refine ⟨⟨kind, s, al, gr, ⟨k, xn, xt, xd, xc, xs, xi, xtm, xo, items, codes⟩, ⟨⟨wk, wn, wa, wg, ww⟩, xcode⟩, ⟨iname, ig, ii, ity, ia, iw⟩⟩, rfl, ?_⟩
  simp only [Act.len]
  omega
theorem acts_of {B : Nat} : ∀ {xs : List (List D)}, (∀ x ∈ xs, OkL Tryd.prog B actT x) → ∃ l : List Act, xs = l.map Act.d ∧ ∀ a ∈ l, a.len ≤ 6 * B
  | [], h => ⟨[], rfl, by simp⟩
  | x :: xs, h => by
    obtain ⟨a, rfl, ha⟩ := act_of (h x (List.mem_cons_self ..))
    obtain ⟨l, rfl, hl⟩ := acts_of (xs := xs) fun y hy => h y (List.mem_cons_of_mem _ hy)
    exact ⟨a :: l, rfl, fun b hb => by rcases List.mem_cons.1 hb with rfl | hb; exact ha; exact hl b hb⟩
theorem sees_law (l : List A) (h : ArgsOk Tryd.prog reachBytes [(true, contactT), (false, [.sl 53])] l) : AF Tryd.prog (gl0 m) 5 l (.one (.v (.bool true))) := by
  obtain ⟨d1, l1, rfl, h1, k1⟩ := argsOk_cons h
  obtain ⟨d2, l2, rfl, h2, k2⟩ := argsOk_cons k1
  obtain rfl := argsOk_nil k2
  obtain ⟨c, r, rfl, hn, hr⟩ := contact_of (ts := []) h1
  obtain rfl := hr.nil_inv
  obtain ⟨n, us, xs, r2, rfl, hl, hx, hlen, hr2⟩ := okl_sl h2
  obtain rfl := hr2.nil_inv
  have e := leaves_eq hl leaves53
  subst e
  obtain ⟨acts, rfl, ha⟩ := acts_of hx
  unfold reachBytes at hn hlen ha
  simp only [List.length_map] at hlen
  exact sees_AF m c acts (by omega) (fun a h => by have := ha a h; omega) (by omega)
end Go.Proofs.YtmhhpcjiejpcfaaDoor.Ab
