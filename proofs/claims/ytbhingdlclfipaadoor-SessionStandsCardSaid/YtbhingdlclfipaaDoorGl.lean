/- The layer session, part 12: arguments; the law SessionHeard at its arguments. -/
import Derived.Test.YtbhingdlclfipaaDoorGk
import Derived.Test.YtbhingdlclfipaaDoorAb20
namespace Go.Proofs.YtbhingdlclfipaaDoor.Ab
open Go Go.RowKit Go.Proofs
set_option linter.unusedVariables false
def begT : List Ty := [.str, .str, .int .i64, .int .i64, .int .i64]
def noteT : List Ty := [.int .i64, .str, .str, .str, .int .i64, .int .i64, .int .i64, .int .i64, .bool, .sl 68, .sl 3]
def itemT : List Ty := [.str, .int .i64, .int .i64, .int .i64, .str, .bool]
theorem leaves68 : leaves Tryd.prog 4 68 = some itemT := by kernel_rfl
theorem leaves3 : leaves Tryd.prog 4 3 = some [.int .i64] := by kernel_rfl
theorem begin_of {B : Nat} {ts : List Ty} {ds : List D} (h : OkL Tryd.prog B (begT ++ ts) ds) : ∃ (c : Bg) (r : List D), ds = c.d ++ r ∧ c.nm.size ≤ B ∧ c.pw.size ≤ B ∧ OkL Tryd.prog B ts r := by
  simp only [begT, List.cons_append, List.nil_append] at h
  obtain ⟨n, d1, rfl, hn, h1⟩ := okl_str h
  obtain ⟨p, d2, rfl, hp, h2⟩ := okl_str h1
  obtain ⟨a, d3, rfl, _, h3⟩ := okl_int h2
  obtain ⟨b, d4, rfl, _, h4⟩ := okl_int h3
  obtain ⟨c, d5, rfl, _, h5⟩ := okl_int h4
  exact ⟨⟨n, p, a, b, c⟩, d5, rfl, hn, hp, h5⟩
theorem item_of {B : Nat} {ds : List D} (h : OkL Tryd.prog B itemT ds) : ∃ a : It, ds = a.d ∧ a.len ≤ 2 * B := by
  unfold itemT at h
  obtain ⟨n, d1, rfl, hn, h1⟩ := okl_str h
  obtain ⟨a, d2, rfl, _, h2⟩ := okl_int h1
  obtain ⟨b, d3, rfl, _, h3⟩ := okl_int h2
  obtain ⟨c, d4, rfl, _, h4⟩ := okl_int h3
  obtain ⟨p, d5, rfl, hp, h5⟩ := okl_str h4
  obtain ⟨w, d6, rfl, h6⟩ := okl_bool h5
  obtain rfl := h6.nil_inv
  exact ⟨⟨n, a, b, c, p, w⟩, rfl, by simp only [It.len]; omega⟩
theorem items_of {B : Nat} : ∀ {xs : List (List D)}, (∀ x ∈ xs, OkL Tryd.prog B itemT x) → ∃ l : List It, xs = l.map It.d ∧ ∀ a ∈ l, a.len ≤ 2 * B
  | [], h => ⟨[], rfl, by simp⟩
  | x :: xs, h => by
    obtain ⟨a, rfl, ha⟩ := item_of (h x (List.mem_cons_self ..))
    obtain ⟨l, rfl, hl⟩ := items_of (xs := xs) fun y hy => h y (List.mem_cons_of_mem _ hy)
    exact ⟨a :: l, rfl, fun b hb => by rcases List.mem_cons.1 hb with rfl | hb; exact ha; exact hl b hb⟩
theorem ints_of {B : Nat} : ∀ {xs : List (List D)}, (∀ x ∈ xs, OkL Tryd.prog B [.int .i64] x) → ∃ l : List Int, xs = l.map fun w => [.v (.int .i64 w)]
  | [], h => ⟨[], rfl⟩
  | x :: xs, h => by
    obtain ⟨a, d, rfl, _, h1⟩ := okl_int (h x (List.mem_cons_self ..))
    obtain rfl := h1.nil_inv
    obtain ⟨l, rfl⟩ := ints_of (xs := xs) fun y hy => h y (List.mem_cons_of_mem _ hy)
    exact ⟨a :: l, rfl⟩
theorem note_of {B : Nat} {ts : List Ty} {ds : List D} (h : OkL Tryd.prog B (noteT ++ ts) ds) : ∃ (n : Nt) (its : List It) (r : List D), ds = n.d ++ r ∧ n.items = its.map It.d ∧ n.len ≤ 4 * B ∧ (∀ x ∈ its, x.len ≤ 2 * B) ∧ its.length ≤ B ∧ OkL Tryd.prog B ts r := by
  simp only [noteT, List.cons_append, List.nil_append] at h
  obtain ⟨k, d5, rfl, _, h5⟩ := okl_int h
  obtain ⟨xn, d6, rfl, b4, h6⟩ := okl_str h5
  obtain ⟨xt, d7, rfl, b5, h7⟩ := okl_str h6
  obtain ⟨xd, d8, rfl, b6, h8⟩ := okl_str h7
  obtain ⟨xc, d9, rfl, _, h9⟩ := okl_int h8
  obtain ⟨xs, d10, rfl, _, h10⟩ := okl_int h9
  obtain ⟨xi, d11, rfl, _, h11⟩ := okl_int h10
  obtain ⟨xtm, d12, rfl, _, h12⟩ := okl_int h11
  obtain ⟨xo, d13, rfl, h13⟩ := okl_bool h12
  obtain ⟨n1, u1, items, d14, rfl, l1, x1, c1, h14⟩ := okl_sl h13
  obtain ⟨n2, u2, codes, d15, rfl, l2, _, c2, h15⟩ := okl_sl h14
  have e1 := leaves_eq l1 leaves68
  have e2 := leaves_eq l2 leaves3
  subst e1; subst e2
  obtain ⟨its, rfl, hits⟩ := items_of x1
  refine ⟨⟨k, xn, xt, xd, xc, xs, xi, xtm, xo, its.map It.d, codes⟩, its, d15, rfl, rfl, ?_, hits, by simpa using c1, h15⟩
  simp only [Nt.len]
  omega
theorem heard_law (m : Int) (l : List A) (h : ArgsOk Tryd.prog reachBytes [(true, begT), (false, [.sl 3]), (true, noteT)] l) : AF Tryd.prog (gl0 m) 4 l (.one (.v (.bool true))) := by
  obtain ⟨d1, l1, rfl, h1, k1⟩ := argsOk_cons h
  obtain ⟨d2, l2, rfl, h2, k2⟩ := argsOk_cons k1
  obtain ⟨d3, l3, rfl, h3, k3⟩ := argsOk_cons k2
  obtain rfl := argsOk_nil k3
  obtain ⟨b, r, rfl, hn, hp, hr⟩ := begin_of (ts := []) h1
  obtain rfl := hr.nil_inv
  obtain ⟨n, us, xs, r2, rfl, hl, hx, hlen, hr2⟩ := okl_sl h2
  obtain rfl := hr2.nil_inv
  have e := leaves_eq hl leaves3
  subst e
  obtain ⟨ws, rfl⟩ := ints_of hx
  obtain ⟨nt, its, r3, rfl, hi, hk, hit, hil, hr3⟩ := note_of (ts := []) h3
  obtain rfl := hr3.nil_inv
  unfold reachBytes at hn hp hlen hk hit hil
  simp only [List.length_map] at hlen
  exact heard_AF b ws nt its hi (by omega) (by omega) (by omega) (by omega) ⟨fun x hx => by have := hit x hx; omega, by omega⟩
end Go.Proofs.YtbhingdlclfipaaDoor.Ab
