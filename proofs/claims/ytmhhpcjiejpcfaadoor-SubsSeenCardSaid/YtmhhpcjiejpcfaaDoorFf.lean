/- The layer subs, part 6: the law SubsTurns, walked. -/
import Derived.Test.YtmhhpcjiejpcfaaDoorFe
namespace Go.Proofs.YtmhhpcjiejpcfaaDoor.Ab
open Go Go.RowKit Go.Proofs
set_option linter.unusedVariables false
set_option linter.unusedSimpArgs false
variable (m : Int)
def goneR (c : Contact) : A := tup2 (goneC c, goneT c)
def lawSp3 : Sp := spc 12 (conS goneR) lawSp2
theorem lawSp3_ok : SpOK Tryd.prog (gl0 m) lawSp3 := SpOK.cons (conS_ok m (gone_AF m)) (lawSp2_ok m)
set_option maxRecDepth 100000 in
set_option maxHeartbeats 4000000 in
theorem turns_AF (name alias group : ByteArray) (gone : Bool) (h1 : name.size ≤ 140737488355328) (h2 : alias.size ≤ 140737488355328) (h3 : group.size ≤ 140737488355328) :
    AF Tryd.prog (gl0 m) 4 [.one (.v (.string name)), .one (.v (.string alias)), .one (.v (.string group)), .one (.v (.bool gone))] (.one (.v (.bool true))) := by
  refine AF_by (lawSp3_ok m) mixed F4_ok ?_
  have hw : IntKind.i64.wrap ((name.size : Int) + (alias.size : Int)) = (name.size : Int) + (alias.size : Int) := wrap_small _ (by omega) (by omega)
  have hw2 : IntKind.i64.wrap ((name.size : Int) + (alias.size : Int) + (group.size : Int)) = (name.size : Int) + (alias.size : Int) + (group.size : Int) := wrap_small _ (by omega) (by omega)
  by_cases h8 : name.size + alias.size + group.size ≤ 8000
  · have hc : ¬ ((8000 : Int) < (name.size : Int) + (alias.size : Int) + (group.size : Int)) := by omega
    have hs : name.size ≤ 1000000 := by omega
    cases gone <;> simp [F4, lawSp3, lawSp2, lawSp, liveS, userS, dealtS, conS, Contact.of, Deal.of, tup2, userP, kSub, kUnsub, kSubd, kUnsubd, Contact.d, Turn.d, Wish.d, noT, dealtP, same_self, seenC, seenT, shownP, strD, kNone, rowR, rowP, kTo, kBoth, kFrom, kNo, goneR, goneC, goneT, unseenC, delW, hw, hw2, hc, hs]
  · have hc : (8000 : Int) < (name.size : Int) + (alias.size : Int) + (group.size : Int) := by omega
    simp [F4, lawSp3, lawSp2, lawSp, liveS, hw, hw2, hc]
theorem turns_law (l : List A) (h : ArgsOk Tryd.prog reachBytes [(false, [.str]), (false, [.str]), (false, [.str]), (false, [.bool])] l) : AF Tryd.prog (gl0 m) 4 l (.one (.v (.bool true))) := by
  obtain ⟨d1, l1, rfl, h1, k1⟩ := argsOk_cons h
  obtain ⟨d2, l2, rfl, h2, k2⟩ := argsOk_cons k1
  obtain ⟨d3, l3, rfl, h3, k3⟩ := argsOk_cons k2
  obtain ⟨d4, l4, rfl, h4, k4⟩ := argsOk_cons k3
  obtain rfl := argsOk_nil k4
  obtain ⟨a, r1, rfl, ha, hr1⟩ := okl_str h1
  obtain rfl := hr1.nil_inv
  obtain ⟨b, r2, rfl, hb, hr2⟩ := okl_str h2
  obtain rfl := hr2.nil_inv
  obtain ⟨c, r3, rfl, hc, hr3⟩ := okl_str h3
  obtain rfl := hr3.nil_inv
  obtain ⟨g, r4, rfl, hr4⟩ := okl_bool h4
  obtain rfl := hr4.nil_inv
  unfold reachBytes at ha hb hc
  exact turns_AF m a b c g (by omega) (by omega) (by omega)
end Go.Proofs.YtmhhpcjiejpcfaaDoor.Ab
