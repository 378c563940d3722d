/- The layer subs, part 5: somebody, out of an argument; the law SubsAsked at its arguments. -/
import Derived.Test.YtmhhpcjiejpcfaaDoorFd
import Derived.Test.YtmhhpcjiejpcfaaDoorAb20
namespace Go.Proofs.YtmhhpcjiejpcfaaDoor.Ab
open Go Go.RowKit Go.Proofs
set_option linter.unusedVariables false
def contactT : List Ty := [.str, .bool, .bool, .bool, .bool, .bool, .bool, .int .i64, .int .i64]
theorem contact_of {P : Program} {B : Nat} {ts : List Ty} {ds : List D} (h : OkL P B (contactT ++ ts) ds) : ∃ (c : Contact) (r : List D), ds = c.d ++ r ∧ c.name.size ≤ B ∧ OkL P B ts r := by
  simp only [contactT, List.cons_append, List.nil_append] at h
  obtain ⟨n, d1, rfl, hn, h1⟩ := okl_str h
  obtain ⟨a, d2, rfl, h2⟩ := okl_bool h1
  obtain ⟨b, d3, rfl, h3⟩ := okl_bool h2
  obtain ⟨c, d4, rfl, h4⟩ := okl_bool h3
  obtain ⟨d, d5, rfl, h5⟩ := okl_bool h4
  obtain ⟨e, d6, rfl, h6⟩ := okl_bool h5
  obtain ⟨f, d7, rfl, h7⟩ := okl_bool h6
  obtain ⟨s, d8, rfl, _, h8⟩ := okl_int h7
  obtain ⟨i, d9, rfl, _, h9⟩ := okl_int h8
  exact ⟨⟨n, a, b, c, d, e, f, s, i⟩, d9, rfl, hn, h9⟩
theorem asked_law (m : Int) (l : List A) (h : ArgsOk Tryd.prog reachBytes [(true, contactT), (false, [.bool]), (false, [.str])] l) : AF Tryd.prog (gl0 m) 3 l (.one (.v (.bool true))) := by
  obtain ⟨d1, l1, rfl, h1, k1⟩ := argsOk_cons h
  obtain ⟨d2, l2, rfl, h2, k2⟩ := argsOk_cons k1
  obtain ⟨d3, l3, rfl, h3, k3⟩ := argsOk_cons k2
  obtain rfl := argsOk_nil k3
  obtain ⟨c, r, rfl, hn, hr⟩ := contact_of (ts := []) h1
  obtain rfl := hr.nil_inv
  obtain ⟨b, r2, rfl, hr2⟩ := okl_bool h2
  obtain rfl := hr2.nil_inv
  obtain ⟨s, r3, rfl, hs, hr3⟩ := okl_str h3
  obtain rfl := hr3.nil_inv
  exact asked_AF m c b s (by unfold reachBytes at hn hs; omega)
end Go.Proofs.YtmhhpcjiejpcfaaDoor.Ab
