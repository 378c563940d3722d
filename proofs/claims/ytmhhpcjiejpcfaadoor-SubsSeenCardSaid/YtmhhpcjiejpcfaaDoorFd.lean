/- The layer subs, part 4: somebody who is asked for, and added; the law SubsAsked, walked. -/
import Derived.Test.YtmhhpcjiejpcfaaDoorFc
namespace Go.Proofs.YtmhhpcjiejpcfaaDoor.Ab
open Go Go.RowKit Go.Proofs
set_option linter.unusedVariables false
set_option linter.unusedSimpArgs false
variable (m : Int)
def Note.of : List D → Option Note
  | [.v (.int .i64 k), .v (.string n), .v (.string t), .v (.string d), .v (.int .i64 c), .v (.int .i64 s), .v (.int .i64 i), .v (.int .i64 tm), .v (.bool ok), .sl .no 6 items, .sl .no 1 codes] => some ⟨k, n, t, d, c, s, i, tm, ok, items, codes⟩
  | _ => none
theorem Note.of_d {cs : List D} {c : Note} (h : Note.of cs = some c) : cs = c.d := by
  unfold Note.of at h
  split at h
  · simp only [Option.some.injEq] at h; subst h; rfl
  · cases h
def Deal.of : List D → Option Deal
  | [.v (.int .i64 k), .v (.string n), .v (.string a), .v (.string g), .v (.bool w), .v (.int .i64 c)] => some ⟨⟨k, n, a, g, w⟩, c⟩
  | _ => none
theorem Deal.of_d {cs : List D} {c : Deal} (h : Deal.of cs = some c) : cs = c.d := by
  unfold Deal.of at h
  split at h
  · simp only [Option.some.injEq] at h; subst h; rfl
  · cases h
def tup2 (x : Contact × Turn) : A := .tup [.agg x.1.d, .agg x.2.d]
def heardS : List A → Option (Prop × A)
  | [.agg cs, .agg ns] => (Contact.of cs).bind fun c => (Note.of ns).map fun n => (c.name.size ≤ 1000000 ∧ n.name.size ≤ 1000000, tup2 (heardP c n))
  | _ => none
theorem heardS_ok : ∀ l p r, heardS l = some (p, r) → p → AF Tryd.prog (gl0 m) 7 l r := by
  intro l p r h hp
  unfold heardS at h
  split at h
  · obtain ⟨c, hc, h⟩ := bind_some h
    obtain ⟨n, hn, h⟩ := map_some h
    simp only [Prod.mk.injEq] at h; obtain ⟨rfl, rfl⟩ := h
    rw [Contact.of_d hc, Note.of_d hn]
    exact heard_AF m c n hp.1 hp.2
  · cases h
def dealtS : List A → Option (Prop × A)
  | [.agg cs, .agg ns] => (Contact.of cs).bind fun c => (Deal.of ns).map fun n => (c.name.size ≤ 1000000 ∧ n.wish.name.size ≤ 1000000, tup2 (dealtP c n))
  | _ => none
theorem dealtS_ok : ∀ l p r, dealtS l = some (p, r) → p → AF Tryd.prog (gl0 m) 10 l r := by
  intro l p r h hp
  unfold dealtS at h
  split at h
  · obtain ⟨c, hc, h⟩ := bind_some h
    obtain ⟨n, hn, h⟩ := map_some h
    simp only [Prod.mk.injEq] at h; obtain ⟨rfl, rfl⟩ := h
    rw [Contact.of_d hc, Deal.of_d hn]
    exact dealt_AF m c n hp.1 hp.2
  · cases h
def userS : List A → Option (Prop × A)
  | [.agg cs, .one (.v (.string k)), .one (.v (.string a)), .one (.v (.string g))] => (Contact.of cs).map fun c => (True, tup2 (userP c k a g))
  | _ => none
theorem userS_ok : ∀ l p r, userS l = some (p, r) → p → AF Tryd.prog (gl0 m) 8 l r := by
  intro l p r h hp
  unfold userS at h
  split at h
  · obtain ⟨c, hc, h⟩ := map_some h
    simp only [Prod.mk.injEq] at h; obtain ⟨rfl, rfl⟩ := h
    rw [Contact.of_d hc]
    exact user_AF m c _ _ _
  · cases h
def rowR (c : Contact) : A := .one (.v (.string (rowP c)))
def idleR (c : Contact) : A := .one (.v (.bool (idleP c)))
def lawSp : Sp := spc 7 heardS (spc 8 userS (spc 10 dealtS (spc 11 (conS rowR) (spc 15 (conS idleR) fun _ _ => none))))
theorem lawSp_ok : SpOK Tryd.prog (gl0 m) lawSp :=
  SpOK.cons (heardS_ok m) (SpOK.cons (userS_ok m) (SpOK.cons (dealtS_ok m) (SpOK.cons (conS_ok m (row_AF m)) (SpOK.cons (conS_ok m (idle_AF m)) SpOK.none))))
def kJoe : ByteArray := ⟨#[106, 111, 101]⟩
def kJoe' : ByteArray := ⟨#[74, 111, 101]⟩
theorem same_joe : sameB ⟨#[106, 111, 101]⟩ ⟨#[74, 111, 101]⟩ = true := by kernel_rfl
theorem same_self (a : ByteArray) : sameB a a = true := by simp [sameB]
set_option maxRecDepth 100000 in
set_option maxHeartbeats 4000000 in
theorem live_AF : AF Tryd.prog (gl0 m) 6 [] (.one (.v (.bool true))) := by
  refine AF_by (lawSp_ok m) mixed F6_ok ?_
  simp [F6, lawSp, userS, heardS, dealtS, conS, Contact.of, Note.of, Deal.of, rowR, idleR, tup2, userP, kSub, kUnsub, kSubd, kUnsubd, Contact.d, Turn.d, noT, Wish.d, dealtP, heardP, same_joe, same_self, seenC, seenT, shownP, strD, rowP, idleP, kTo, kBoth, kFrom, kNo, kNone, grantN, Note.d]
  exact ⟨⟨by decide, by decide⟩, by decide⟩
def liveS : List A → Option (Prop × A)
  | [] => some (True, .one (.v (.bool true)))
  | _ => none
theorem liveS_ok : ∀ l p r, liveS l = some (p, r) → p → AF Tryd.prog (gl0 m) 6 l r := by
  intro l p r h hp
  unfold liveS at h
  split at h
  · simp only [Option.some.injEq, Prod.mk.injEq] at h; obtain ⟨rfl, rfl⟩ := h
    exact live_AF m
  · cases h
/-- Notes that are the same, without items and codes. -/
def nsameS : List A → Option (Prop × A)
  | [.agg a, .agg b] => (Note.of a).bind fun x => (Note.of b).map fun y => (x = y ∧ x.items = [] ∧ x.codes = [], .one (.v (.bool true)))
  | _ => none
theorem nsameS_ok : ∀ l p r, nsameS l = some (p, r) → p → AF Tryd.prog (gl0 m) 9 l r := by
  intro l p r h hp
  unfold nsameS at h
  split at h
  · obtain ⟨x, hx, h⟩ := bind_some h
    obtain ⟨y, hy, h⟩ := map_some h
    simp only [Prod.mk.injEq] at h; obtain ⟨rfl, rfl⟩ := h
    obtain ⟨rfl, h1, h2⟩ := hp
    rw [Note.of_d hx, Note.of_d hy]
    obtain ⟨k, n, t, d, c, s, i, tm, ok, items, codes⟩ := x
    simp only at h1 h2
    subst h1; subst h2
    exact nsame_AF m k n t d c s i tm ok
  · cases h
def lawSp2 : Sp := spc 6 liveS (spc 9 nsameS lawSp)
theorem lawSp2_ok : SpOK Tryd.prog (gl0 m) lawSp2 := SpOK.cons (liveS_ok m) (SpOK.cons (nsameS_ok m) (lawSp_ok m))
set_option maxRecDepth 100000 in
set_option maxHeartbeats 4000000 in
theorem asked_AF (c : Contact) (ok : Bool) (text : ByteArray) (hn : c.name.size + text.size ≤ 9223372036854775807) : AF Tryd.prog (gl0 m) 3 [.agg c.d, .one (.v (.bool ok)), .one (.v (.string text))] (.one (.v (.bool true))) := by
  refine AF_by (lawSp2_ok m) mixed F3_ok ?_
  have hw : IntKind.i64.wrap ((c.name.size : Int) + (text.size : Int)) = (c.name.size : Int) + (text.size : Int) := wrap_small _ (by omega) (by omega)
  obtain ⟨n, sub, pend, await, frm, ask, on, st, idl⟩ := c
  simp only at hn hw
  by_cases h8 : n.size + text.size ≤ 8000
  · have hc : ¬ ((8000 : Int) < (n.size : Int) + (text.size : Int)) := by omega
    cases frm with
    | true => 
      simp [F3, lawSp2, lawSp, liveS, Contact.d, hw, hc]
    | false =>
      have hs : n.size ≤ 1000000 := by omega
      cases ok <;> simp [F3, lawSp2, lawSp, liveS, nsameS, userS, heardS, Contact.of, Note.of, tup2, userP, kSub, kUnsub, kSubd, kUnsubd, Contact.d, Turn.d, noT, heardP, same_self, strD, kNone, grantN, Note.d, hw, hc, hs]
  · have hc : (8000 : Int) < (n.size : Int) + (text.size : Int) := by omega
    simp [F3, lawSp2, lawSp, liveS, Contact.d, hw, hc]
end Go.Proofs.YtmhhpcjiejpcfaaDoor.Ab
