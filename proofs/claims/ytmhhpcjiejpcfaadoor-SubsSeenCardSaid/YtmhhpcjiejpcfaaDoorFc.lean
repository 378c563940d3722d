/- The layer subs, part 3: User; are two notes the same. -/
import Derived.Test.YtmhhpcjiejpcfaaDoorFb
namespace Go.Proofs.YtmhhpcjiejpcfaaDoor.Ab
open Go Go.RowKit Go.Proofs
set_option linter.unusedVariables false
set_option linter.unusedSimpArgs false
variable (m : Int)
def userP (c : Contact) (kind alias group : ByteArray) : Contact × Turn :=
  if kind = kSub then (if c.sub = true then (c, ⟨shownP c [kSubd], [], []⟩) else ({ c with pend := true }, ⟨[], [], [⟨1, c.name, alias, group, false⟩]⟩))
  else if kind = kUnsub then (unseenC c, ⟨[kUnsubd], [], if (c.sub || c.await || c.pend) = true then [delW c] else []⟩)
  else if kind = kSubd then (if c.ask = true then ({ c with frm := true, ask := false }, ⟨[], [grantN c true], []⟩) else (c, noT))
  else if kind = kUnsubd then ({ c with frm := false, ask := false }, ⟨[], if c.ask = true then [grantN c false] else [], []⟩)
  else (c, noT)
theorem user_AF (c : Contact) (kind alias group : ByteArray) : AF Tryd.prog (gl0 m) 8 [.agg c.d, .one (.v (.string kind)), .one (.v (.string alias)), .one (.v (.string group))] (.tup [.agg (userP c kind alias group).1.d, .agg (userP c kind alias group).2.d]) := by
  refine AF_by (subsSp_ok m) mixed F8_ok ?_
  obtain ⟨n, sub, pend, await, frm, ask, on, st, idl⟩ := c
  simp [F8, Contact.d, subsSp, conS, shownS, grantedS, Contact.of, unseenR, dropR]
  by_cases h1 : kind = kSub
  · subst h1; cases sub <;> cases on <;> simp [userP, kSub, kSubd, Turn.d, Wish.d, shownP, strD]
  · by_cases h2 : kind = kUnsub
    · subst h2; cases sub <;> cases await <;> cases pend <;> simp [userP, kSub, kUnsub, kUnsubd, Turn.d, strD, unseenC, delW]
    · by_cases h3 : kind = kSubd
      · subst h3; cases ask <;> simp [userP, kSub, kUnsub, kSubd, Turn.d, noT, grantN]
      · by_cases h4 : kind = kUnsubd
        · subst h4; cases ask <;> simp [userP, kSub, kUnsub, kSubd, kUnsubd, Turn.d, noT, grantN]
        · have e : userP ⟨n, sub, pend, await, frm, ask, on, st, idl⟩ kind alias group = (⟨n, sub, pend, await, frm, ask, on, st, idl⟩, noT) := by simp [userP, h1, h2, h3, h4]
          simp only [kSub, kUnsub, kSubd, kUnsubd] at h1 h2 h3 h4
          simp [e, h1, h2, h3, h4, noT, Turn.d]
theorem nsame_AF (k : Int) (n t d : ByteArray) (c s i tm : Int) (ok : Bool) : AF Tryd.prog (gl0 m) 9 [.agg (Note.d ⟨k, n, t, d, c, s, i, tm, ok, [], []⟩), .agg (Note.d ⟨k, n, t, d, c, s, i, tm, ok, [], []⟩)] (.one (.v (.bool true))) := by
  refine AF_by SpOK.none mixed F9_ok ?_
  simp [F9, Note.d]
  refine awp_once ?_
  simp
  refine awp_once ?_
  simp
end Go.Proofs.YtmhhpcjiejpcfaaDoor.Ab
