/- The layer session, part 25: the law SessionStands at its arguments. -/
import Derived.Test.YtbhingdlclfipaaDoorGy
namespace Go.Proofs.YtbhingdlclfipaaDoor.Ab
open Go Go.RowKit Go.Proofs
set_option linter.unusedVariables false
set_option linter.unusedSimpArgs false
theorem note_nok {B : Nat} {ts : List Ty} {ds : List D} (hB : B ≤ 1125899906842624) (h : OkL Tryd.prog B (noteT ++ ts) ds) : ∃ (n : Nt) (its : List It) (r : List D), ds = n.d ++ r ∧ n.items = its.map It.d ∧ n.len ≤ 4 * B ∧ (∀ x ∈ its, x.len ≤ 2 * B) ∧ its.length ≤ B ∧ NOK n ∧ OkL Tryd.prog B ts r := by
  simp only [noteT, List.cons_append, List.nil_append] at h
  obtain ⟨k, d5, rfl, _, h5⟩ := okl_int h
  obtain ⟨xn, d6, rfl, b4, h6⟩ := okl_str h5
  obtain ⟨xt, d7, rfl, b5, h7⟩ := okl_str h6
  obtain ⟨xd, d8, rfl, b6, h8⟩ := okl_str h7
  obtain ⟨xc, d9, rfl, _, h9⟩ := okl_int h8
  obtain ⟨xs, d10, rfl, _, h10⟩ := okl_int h9
  obtain ⟨xi, d11, rfl, _, h11⟩ := okl_int h10
  obtain ⟨xtm, d12, rfl, _, h12⟩ := okl_int h11
  obtain ⟨xo, d13, rfl, h13⟩ := okl_bool h12
  obtain ⟨n1, u1, items, d14, rfl, l1, x1, c1, h14⟩ := okl_sl h13
  obtain ⟨n2, u2, codes, d15, rfl, l2, x2, c2, h15⟩ := okl_sl h14
  have e1 := leaves_eq l1 leaves68
  have e2 := leaves_eq l2 leaves3
  subst e1; subst e2
  obtain ⟨its, rfl, hits⟩ := items_of x1
  obtain ⟨cds, rfl⟩ := ints_of x2
  have c1' : its.length ≤ B := by simpa using c1
  have c2' : cds.length ≤ B := by simpa using c2
  refine ⟨⟨k, xn, xt, xd, xc, xs, xi, xtm, xo, its.map It.d, cds.map intC⟩, its, d15, rfl, rfl, ?_, hits, by simpa using c1, ⟨⟨its, rfl, by omega⟩, ⟨cds, rfl, by omega⟩⟩, h15⟩
  simp only [Nt.len, List.length_map]
  omega
def sesT : List Ty := [.int .i64, .str, .str, .int .i64, .int .i64, .int .i64, .int .i64, .int .i64, .int .i64]
def act1T : List Ty := .int .i64 :: (noteT ++ [.int .i64])
theorem ses_of {B : Nat} {ds : List D} (h : OkL Tryd.prog B sesT ds) : ∃ c : Ses, ds = c.d ∧ c.nm.size ≤ B ∧ c.pw.size ≤ B := by
  unfold sesT at h
  obtain ⟨ph, d1, rfl, _, h1⟩ := okl_int h
  obtain ⟨n, d2, rfl, hn, h2⟩ := okl_str h1
  obtain ⟨p, d3, rfl, hp, h3⟩ := okl_str h2
  obtain ⟨a, d4, rfl, _, h4⟩ := okl_int h3
  obtain ⟨b, d5, rfl, _, h5⟩ := okl_int h4
  obtain ⟨c, d6, rfl, _, h6⟩ := okl_int h5
  obtain ⟨e, d7, rfl, _, h7⟩ := okl_int h6
  obtain ⟨f, d8, rfl, _, h8⟩ := okl_int h7
  obtain ⟨g, d9, rfl, _, h9⟩ := okl_int h8
  obtain rfl := h9.nil_inv
  exact ⟨⟨ph, n, p, a, b, c, e, f, g⟩, rfl, hn, hp⟩
theorem act_nok {B : Nat} {ds : List D} (h : OkL Tryd.prog B act1T ds) (hB : B ≤ 1125899906842624) : ∃ a : Act, ds = a.d ∧ a.Fit ∧ NOK a.n := by
  unfold act1T at h
  obtain ⟨k, d1, rfl, _, h1⟩ := okl_int h
  obtain ⟨n, its, r, rfl, hi, hk, hit, hil, hok, h2⟩ := note_nok (ts := [.int .i64]) hB h1
  obtain ⟨c, d2, rfl, _, h3⟩ := okl_int h2
  obtain rfl := h3.nil_inv
  exact ⟨⟨k, n, c⟩, rfl, ⟨by simp only; omega, its, by simp only; rw [hi]; exact itsOf_map its, fun x hx => by have := hit x hx; omega, by omega⟩, hok⟩
theorem stands_law (m : Int) (l : List A) (h : ArgsOk Tryd.prog reachBytes [(true, sesT), (true, act1T)] l) : AF Tryd.prog (gl0 m) 6 l (.one (.v (.bool true))) := by
  obtain ⟨d1, l1, rfl, h1, k1⟩ := argsOk_cons h
  obtain ⟨d2, l2, rfl, h2, k2⟩ := argsOk_cons k1
  obtain rfl := argsOk_nil k2
  obtain ⟨s, rfl, hn, hp⟩ := ses_of h1
  obtain ⟨a, rfl, hf, hok⟩ := act_nok h2 (by unfold reachBytes; omega)
  unfold reachBytes at hn hp
  exact stands_AF s a (by omega) (by omega) hf hok
end Go.Proofs.YtbhingdlclfipaaDoor.Ab
