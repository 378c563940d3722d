/- The layer subs, part 7: does and small. -/
import Derived.Test.YtmhhpcjiejpcfaaDoorFf
namespace Go.Proofs.YtmhhpcjiejpcfaaDoor.Ab
open Go Go.RowKit Go.Proofs
set_option linter.unusedVariables false
set_option linter.unusedSimpArgs false
variable (m : Int)
def Item.of : List D → Option Item
  | [.v (.string n), .v (.int .i64 g), .v (.int .i64 i), .v (.int .i64 t), .v (.string a), .v (.bool w)] => some ⟨n, g, i, t, a, w⟩
  | _ => none
theorem Item.of_d {cs : List D} {c : Item} (h : Item.of cs = some c) : cs = c.d := by
  unfold Item.of at h
  split at h
  · simp only [Option.some.injEq] at h; subst h; rfl
  · cases h
def listedS : List A → Option (Prop × A)
  | [.agg cs, .agg ns] => (Contact.of cs).bind fun c => (Item.of ns).map fun n => (c.name.size ≤ 1000000 ∧ n.name.size ≤ 1000000, tup2 (listedP c n))
  | _ => none
theorem listedS_ok : ∀ l p r, listedS l = some (p, r) → p → AF Tryd.prog (gl0 m) 22 l r := by
  intro l p r h hp
  unfold listedS at h
  split at h
  · obtain ⟨c, hc, h⟩ := bind_some h
    obtain ⟨n, hn, h⟩ := map_some h
    simp only [Prod.mk.injEq] at h; obtain ⟨rfl, rfl⟩ := h
    rw [Contact.of_d hc, Item.of_d hn]
    exact listed_AF m c n hp.1 hp.2
  · cases h
structure Act where
  kind : Int
  s : ByteArray
  alias : ByteArray
  group : ByteArray
  n : Note
  x : Deal
  it : Item
def Act.d (a : Act) : List D := .v (.int .i64 a.kind) :: .v (.string a.s) :: .v (.string a.alias) :: .v (.string a.group) :: (a.n.d ++ (a.x.d ++ a.it.d))
def doesP (c : Contact) (a : Act) : Contact × Turn :=
  if a.kind = 0 then userP c a.s a.alias a.group else if a.kind = 1 then heardP c a.n else if a.kind = 2 then dealtP c a.x else if a.kind = 3 then listedP c a.it else (goneC c, goneT c)
def lawSp4 : Sp := spc 22 listedS lawSp3
theorem lawSp4_ok : SpOK Tryd.prog (gl0 m) lawSp4 := SpOK.cons (listedS_ok m) (lawSp3_ok m)
set_option maxRecDepth 100000 in
set_option maxHeartbeats 4000000 in
theorem does_AF (c : Contact) (a : Act) (h1 : c.name.size ≤ 1000000) (h2 : a.n.name.size ≤ 1000000) (h3 : a.x.wish.name.size ≤ 1000000) (h4 : a.it.name.size ≤ 1000000) :
    AF Tryd.prog (gl0 m) 14 [.agg c.d, .agg a.d] (tup2 (doesP c a)) := by
  refine AF_by (lawSp4_ok m) mixed F14_ok ?_
  obtain ⟨n, sub, pend, await, frm, ask, on, st, idl⟩ := c
  obtain ⟨kind, s, al, gr, ⟨k, xn, xt, xd, xc, xs, xi, xtm, xo, items, codes⟩, ⟨⟨wk, wn, wa, wg, ww⟩, xcode⟩, ⟨iname, ig, ii, ity, ia, iw⟩⟩ := a
  simp only at h1 h2 h3 h4
  simp [F14, lawSp4, lawSp3, lawSp2, lawSp, userS, heardS, dealtS, listedS, conS, Contact.of, Note.of, Deal.of, Item.of, tup2, Contact.d, Turn.d, Act.d, Note.d, Deal.d, Wish.d, Item.d, goneR, h1, h2, h3, h4]
  by_cases k0 : kind = 0
  · simp [doesP, k0]
  · by_cases k1 : kind = 1
    · simp [doesP, k1]
    · by_cases k2 : kind = 2
      · simp [doesP, k2]
      · by_cases k3 : kind = 3
        · simp [doesP, k3]
        · simp [doesP, k0, k1, k2, k3]
end Go.Proofs.YtmhhpcjiejpcfaaDoor.Ab
