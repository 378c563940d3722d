/- The layer subs, part 2: its data; what its functions give. -/
import Derived.Test.YtmhhpcjiejpcfaaDoorFa
namespace Go.Proofs.YtmhhpcjiejpcfaaDoor.Ab
open Go Go.RowKit Go.Proofs
set_option linter.unusedVariables false
set_option linter.unusedSimpArgs false

structure Contact where
  name : ByteArray
  sub : Bool
  pend : Bool
  await : Bool
  frm : Bool
  ask : Bool
  on : Bool
  status : Int
  idle : Int
def Contact.d (c : Contact) : List D := [.v (.string c.name), .v (.bool c.sub), .v (.bool c.pend), .v (.bool c.await), .v (.bool c.frm), .v (.bool c.ask), .v (.bool c.on), .v (.int .i64 c.status), .v (.int .i64 c.idle)]
def Contact.of : List D → Option Contact
  | [.v (.string n), .v (.bool a), .v (.bool b), .v (.bool c), .v (.bool d), .v (.bool e), .v (.bool f), .v (.int .i64 s), .v (.int .i64 i)] => some ⟨n, a, b, c, d, e, f, s, i⟩
  | _ => none
structure Note where
  kind : Int
  name : ByteArray
  text : ByteArray
  data : ByteArray
  code : Int
  status : Int
  idle : Int
  time : Int
  ok : Bool
  items : List (List D)
  codes : List (List D)
def Note.d (n : Note) : List D := [.v (.int .i64 n.kind), .v (.string n.name), .v (.string n.text), .v (.string n.data), .v (.int .i64 n.code), .v (.int .i64 n.status), .v (.int .i64 n.idle), .v (.int .i64 n.time), .v (.bool n.ok), .sl .no 6 n.items, .sl .no 1 n.codes]
structure Wish where
  kind : Int
  name : ByteArray
  alias : ByteArray
  group : ByteArray
  await : Bool
def Wish.d (n : Wish) : List D := [.v (.int .i64 n.kind), .v (.string n.name), .v (.string n.alias), .v (.string n.group), .v (.bool n.await)]
structure Turn where
  pres : List ByteArray
  notes : List Note
  wishes : List Wish
def strD (s : ByteArray) : List D := [.v (.string s)]
def Turn.d (t : Turn) : List D := [.sl .no 1 (t.pres.map strD), .sl .no 11 (t.notes.map Note.d), .sl .no 5 (t.wishes.map Wish.d)]
def kSub : ByteArray := ⟨#[115, 117, 98, 115, 99, 114, 105, 98, 101]⟩
def kUnsub : ByteArray := ⟨#[117, 110, 115, 117, 98, 115, 99, 114, 105, 98, 101]⟩
def kSubd : ByteArray := ⟨#[115, 117, 98, 115, 99, 114, 105, 98, 101, 100]⟩
def kUnsubd : ByteArray := ⟨#[117, 110, 115, 117, 98, 115, 99, 114, 105, 98, 101, 100]⟩
def kUnav : ByteArray := ⟨#[117, 110, 97, 118, 97, 105, 108, 97, 98, 108, 101]⟩
def kNone : ByteArray := ⟨#[]⟩

variable (m : Int)
/-! ### shown, granted, dropped, unseen, seen -/
def shownP (c : Contact) (l : List ByteArray) : List ByteArray := if (c.sub && c.on) = true then l ++ [kNone] else l
theorem shown_AF (c : Contact) (l : List (List D)) (hl : l.length ≤ 1000) : AF Tryd.prog (gl0 m) 17 [.agg c.d, .one (.sl .full 1 l)] (.one (.sl .no 1 (if (c.sub && c.on) = true then l ++ [strD kNone] else l))) := by
  refine AF_by SpOK.none mixed F17_ok ?_
  simp [F17, Contact.d, strD, kNone]
  split
  · rename_i h; exact ⟨by omega, h.1, h.2⟩
  · rename_i h; intro h1; cases h2 : c.on with
    | false => rfl
    | true => exact absurd ⟨h1, h2⟩ h
def shownS : List A → Option (Prop × A)
  | [.agg cs, .one (.sl .full 1 l)] => (Contact.of cs).map fun c => (l.length ≤ 1000, .one (.sl .no 1 (if (c.sub && c.on) = true then l ++ [strD kNone] else l)))
  | _ => none
theorem Contact.of_d {cs : List D} {c : Contact} (h : Contact.of cs = some c) : cs = c.d := by
  unfold Contact.of at h
  split at h
  · simp only [Option.some.injEq] at h; subst h; rfl
  · cases h
theorem shownS_ok : ∀ l p r, shownS l = some (p, r) → p → AF Tryd.prog (gl0 m) 17 l r := by
  intro l p r h hp
  unfold shownS at h
  split at h
  · obtain ⟨c, hc, h⟩ := map_some h
    simp only [Prod.mk.injEq] at h; obtain ⟨rfl, rfl⟩ := h
    rw [Contact.of_d hc]
    exact shown_AF m c _ hp
  · cases h
def grantN (c : Contact) (ok : Bool) : Note := ⟨28, c.name, kNone, kNone, 0, 0, 0, 0, ok, [], []⟩
theorem granted_AF (c : Contact) (ok : Bool) : AF Tryd.prog (gl0 m) 20 [.agg c.d, .one (.v (.bool ok))] (.one (.sl .no 11 [(grantN c ok).d])) := by
  refine AF_by SpOK.none mixed F20_ok ?_
  simp [F20, Contact.d, grantN, Note.d, kNone]
def delW (c : Contact) : Wish := ⟨2, c.name, kNone, kNone, false⟩
theorem dropped_AF (c : Contact) : AF Tryd.prog (gl0 m) 19 [.agg c.d] (.one (.sl .no 5 [(delW c).d])) := by
  refine AF_by SpOK.none mixed F19_ok ?_
  simp [F19, Contact.d, delW, Wish.d, kNone]
def unseenC (c : Contact) : Contact := { c with sub := false, pend := false, await := false }
theorem unseen_AF (c : Contact) : AF Tryd.prog (gl0 m) 21 [.agg c.d] (.agg (unseenC c).d) := by
  refine AF_by SpOK.none mixed F21_ok ?_
  simp [F21, Contact.d, unseenC]
def seenC (c : Contact) : Contact := { c with sub := true, pend := false, await := false }
def seenT (c : Contact) : Turn := ⟨shownP (seenC c) [kSubd], [], []⟩
theorem seen_AF (c : Contact) : AF Tryd.prog (gl0 m) 18 [.agg c.d] (.tup [.agg (seenC c).d, .agg (seenT c).d]) := by
  refine AF_by (SpOK.cons (shownS_ok m) SpOK.none) mixed F18_ok ?_
  simp [F18, Contact.d, seenC, seenT, Turn.d, shownS, Contact.of, shownP, strD]
  split <;> simp [strD, kSubd, kNone]

/-! ### what callers are told -/
def grantedS : List A → Option (Prop × A)
  | [.agg cs, .one (.v (.bool ok))] => (Contact.of cs).map fun c => (True, .one (.sl .no 11 [(grantN c ok).d]))
  | _ => none
theorem grantedS_ok : ∀ l p r, grantedS l = some (p, r) → p → AF Tryd.prog (gl0 m) 20 l r := by
  intro l p r h hp
  unfold grantedS at h
  split at h
  · obtain ⟨c, hc, h⟩ := map_some h
    simp only [Prod.mk.injEq] at h; obtain ⟨rfl, rfl⟩ := h
    rw [Contact.of_d hc]
    exact granted_AF m c _
  · cases h
/-- A function on somebody alone. -/
def conS (g : Contact → A) : List A → Option (Prop × A)
  | [.agg cs] => (Contact.of cs).map fun c => (True, g c)
  | _ => none
theorem conS_ok {f : FuncId} {g : Contact → A} (hg : ∀ c : Contact, AF Tryd.prog (gl0 m) f [.agg c.d] (g c)) : ∀ l p r, conS g l = some (p, r) → p → AF Tryd.prog (gl0 m) f l r := by
  intro l p r h hp
  unfold conS at h
  split at h
  · obtain ⟨c, hc, h⟩ := map_some h
    simp only [Prod.mk.injEq] at h; obtain ⟨rfl, rfl⟩ := h
    rw [Contact.of_d hc]
    exact hg c
  · cases h
def sameS : List A → Option (Prop × A)
  | [.one (.v (.string a)), .one (.v (.string b))] => some (a.size ≤ 1000000 ∧ b.size ≤ 1000000, .one (.v (.bool (sameB a b))))
  | _ => none
theorem sameS_ok : ∀ l p r, sameS l = some (p, r) → p → AF Tryd.prog (gl0 m) 16 l r := by
  intro l p r h hp
  unfold sameS at h
  split at h
  · simp only [Option.some.injEq, Prod.mk.injEq] at h; obtain ⟨rfl, rfl⟩ := h
    exact same_AF m _ _ hp.1 hp.2
  · cases h
def seenR (c : Contact) : A := .tup [.agg (seenC c).d, .agg (seenT c).d]
def dropR (c : Contact) : A := .one (.sl .no 5 [(delW c).d])
def unseenR (c : Contact) : A := .agg (unseenC c).d
def subsSp : Sp := spc 16 sameS (spc 17 shownS (spc 18 (conS seenR) (spc 19 (conS dropR) (spc 20 grantedS (spc 21 (conS unseenR) fun _ _ => none)))))
theorem subsSp_ok : SpOK Tryd.prog (gl0 m) subsSp :=
  SpOK.cons (sameS_ok m) (SpOK.cons (shownS_ok m) (SpOK.cons (conS_ok m (seen_AF m)) (SpOK.cons (conS_ok m (dropped_AF m)) (SpOK.cons (grantedS_ok m) (SpOK.cons (conS_ok m (unseen_AF m)) SpOK.none)))))

/-! ### Row, Idle, Gone, Listed -/
def kBoth : ByteArray := ⟨#[98, 111, 116, 104]⟩
def kTo : ByteArray := ⟨#[116, 111]⟩
def kFrom : ByteArray := ⟨#[102, 114, 111, 109]⟩
def kNo : ByteArray := ⟨#[110, 111, 110, 101]⟩
def rowP (c : Contact) : ByteArray := if c.sub = true then (if c.frm = true then kBoth else kTo) else if c.frm = true then kFrom else kNo
theorem row_AF (c : Contact) : AF Tryd.prog (gl0 m) 11 [.agg c.d] (.one (.v (.string (rowP c)))) := by
  refine AF_by (subsSp_ok m) mixed F11_ok ?_
  simp [F11, Contact.d]
  cases h1 : c.sub <;> cases h2 : c.frm <;> simp [rowP, h1, h2, kBoth, kTo, kFrom, kNo]
def idleP (c : Contact) : Bool := !c.sub && !c.pend && !c.await && !c.frm && !c.ask && !c.on
theorem idle_AF (c : Contact) : AF Tryd.prog (gl0 m) 15 [.agg c.d] (.one (.v (.bool (idleP c)))) := by
  refine AF_by (subsSp_ok m) mixed F15_ok ?_
  simp [F15, Contact.d, idleP, Bool.and_assoc]
def goneC (c : Contact) : Contact := if (c.sub || c.await) = true then unseenC c else c
def goneT (c : Contact) : Turn := if (c.sub || c.await) = true then ⟨[kUnsubd], [], []⟩ else ⟨[], [], []⟩
theorem gone_AF (c : Contact) : AF Tryd.prog (gl0 m) 12 [.agg c.d] (.tup [.agg (goneC c).d, .agg (goneT c).d]) := by
  refine AF_by (subsSp_ok m) mixed F12_ok ?_
  obtain ⟨n, sub, pend, await, frm, ask, on, st, idl⟩ := c
  cases sub <;> cases await <;> simp [F12, Contact.d, subsSp, conS, Contact.of, unseenR, goneC, goneT, unseenC, Turn.d, strD, kUnsubd]
structure Item where
  name : ByteArray
  grp : Int
  id : Int
  typ : Int
  alias : ByteArray
  await : Bool
def Item.d (n : Item) : List D := [.v (.string n.name), .v (.int .i64 n.grp), .v (.int .i64 n.id), .v (.int .i64 n.typ), .v (.string n.alias), .v (.bool n.await)]
structure Deal where
  wish : Wish
  code : Int
def Deal.d (x : Deal) : List D := x.wish.d ++ [.v (.int .i64 x.code)]
def noT : Turn := ⟨[], [], []⟩
def listedP (c : Contact) (x : Item) : Contact × Turn :=
  if sameB c.name x.name = false then (c, noT) else if x.await = true then ({ c with await := true, sub := false }, noT) else if c.sub = false then (seenC c, seenT c) else (c, noT)
theorem listed_AF (c : Contact) (x : Item) (h1 : c.name.size ≤ 1000000) (h2 : x.name.size ≤ 1000000) : AF Tryd.prog (gl0 m) 22 [.agg c.d, .agg x.d] (.tup [.agg (listedP c x).1.d, .agg (listedP c x).2.d]) := by
  refine AF_by (subsSp_ok m) mixed F22_ok ?_
  obtain ⟨n, sub, pend, await, frm, ask, on, st, idl⟩ := c
  obtain ⟨xn, xg, xi, xt, xa, xw⟩ := x
  simp only at h1 h2
  cases hs : sameB n xn <;> cases xw <;> cases sub <;> simp [F22, Contact.d, Item.d, subsSp, conS, sameS, Contact.of, seenR, listedP, hs, h1, h2, noT, Turn.d, seenC]
def dealtP (c : Contact) (x : Deal) : Contact × Turn :=
  if x.wish.kind ≠ 1 ∨ c.pend = false ∨ sameB c.name x.wish.name = false then (c, noT)
  else if x.code = 14 ∨ (x.code = 0 ∧ x.wish.await = true) then ({ c with await := true }, noT)
  else if x.code ≠ 0 then ({ c with pend := false }, ⟨[kUnsubd], [], []⟩)
  else ({ seenC c with await := c.await }, seenT c)
theorem dealt_AF (c : Contact) (x : Deal) (h1 : c.name.size ≤ 1000000) (h2 : x.wish.name.size ≤ 1000000) : AF Tryd.prog (gl0 m) 10 [.agg c.d, .agg x.d] (.tup [.agg (dealtP c x).1.d, .agg (dealtP c x).2.d]) := by
  refine AF_by (subsSp_ok m) mixed F10_ok ?_
  obtain ⟨n, sub, pend, await, frm, ask, on, st, idl⟩ := c
  obtain ⟨⟨wk, wn, wa, wg, ww⟩, xc⟩ := x
  simp only at h1 h2
  simp [F10, Contact.d, Deal.d, Wish.d, subsSp, conS, sameS, Contact.of, seenR, h1, h2]
  by_cases hk : wk = 1
  · cases pend with
    | false => simp [dealtP, noT, Turn.d]
    | true =>
      cases hs : sameB n wn with
      | false => simp [dealtP, noT, Turn.d, hs]
      | true =>
        by_cases h14 : xc = 14
        · simp [dealtP, noT, Turn.d, hs, hk, h14]
        · by_cases h0 : xc = 0
          · cases ww <;> simp [dealtP, noT, Turn.d, hs, hk, h0, seenC, seenT]
          · simp [dealtP, noT, Turn.d, hs, hk, h14, h0, strD, kUnsubd]
  · simp [dealtP, noT, Turn.d, hk]
def heardP (c : Contact) (n : Note) : Contact × Turn :=
  if sameB c.name n.name = false then (c, noT)
  else if n.kind = 13 then ({ c with on := true, status := n.status, idle := n.idle }, ⟨shownP { c with on := true } [], [], []⟩)
  else if n.kind = 14 then (if c.on = false then (c, noT) else ({ c with on := false, status := 0, idle := 0 }, ⟨if c.sub = true then [kUnav] else [], [], []⟩))
  else if n.kind = 29 then (if c.await = true then (if n.ok = true then (seenC c, seenT c) else ({ c with await := false, pend := false }, ⟨[kUnsubd], [], [delW c]⟩)) else (c, noT))
  else if n.kind = 27 then (if c.frm = true then (c, ⟨[], [grantN c true], []⟩) else ({ c with ask := true }, ⟨[kSub], [], []⟩))
  else (c, noT)
theorem heard_AF (c : Contact) (x : Note) (h1 : c.name.size ≤ 1000000) (h2 : x.name.size ≤ 1000000) : AF Tryd.prog (gl0 m) 7 [.agg c.d, .agg x.d] (.tup [.agg (heardP c x).1.d, .agg (heardP c x).2.d]) := by
  refine AF_by (subsSp_ok m) mixed F7_ok ?_
  obtain ⟨n, sub, pend, await, frm, ask, on, st, idl⟩ := c
  obtain ⟨k, xn, xt, xd, xc, xs, xi, xtm, xo, items, codes⟩ := x
  simp only at h1 h2
  simp [F7, Contact.d, Note.d, subsSp, conS, sameS, shownS, grantedS, Contact.of, seenR, dropR, h1, h2]
  cases hs : sameB n xn with
  | false => simp [heardP, noT, Turn.d, hs]
  | true =>
    by_cases h13 : k = 13
    · subst h13; cases sub <;> simp [heardP, noT, Turn.d, hs, strD, kNone, shownP]
    · by_cases h14 : k = 14
      · subst h14; cases on <;> cases sub <;> simp [heardP, noT, Turn.d, hs, strD, kUnav]
      · by_cases h29 : k = 29
        · subst h29; cases await <;> cases xo <;> simp [heardP, noT, Turn.d, hs, strD, kUnsubd, delW, seenC, seenT]
        · by_cases h27 : k = 27
          · subst h27; cases frm <;> simp [heardP, noT, Turn.d, hs, strD, kSub, grantN, Note.d]
          · simp [heardP, noT, Turn.d, hs, h13, h14, h29, h27]
end Go.Proofs.YtmhhpcjiejpcfaaDoor.Ab
