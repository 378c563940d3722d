/- The layer session, part 19: the law SessionComes, walked. -/
import Derived.Test.YtbhingdlclfipaaDoorGs
import Derived.Test.YtbhingdlclfipaaDoorGl
namespace Go.Proofs.YtbhingdlclfipaaDoor.Ab
open Go Go.RowKit Go.Proofs
set_option linter.unusedVariables false
set_option linter.unusedSimpArgs false
variable {m : Int}
def rmd5S : List A → Option (Prop × A)
  | [.one (.v (.string s))] => some (s.size ≤ 900000000, .one (.v (.string (md5B s))))
  | _ => none
theorem rmd5S_ok : ∀ l p r, rmd5S l = some (p, r) → p → AF Tryd.prog (gl0 m) 29 l r := by
  intro l p r h hp
  unfold rmd5S at h
  split at h
  · simp only [Option.some.injEq, Prod.mk.injEq] at h; obtain ⟨rfl, rfl⟩ := h
    exact rmd5_AF _ hp
  · cases h
theorem tail_size : kTail.size = 26 := by rfl
theorem rsalted_AF (key pw : ByteArray) (h1 : key.size ≤ 100000000) (h2 : pw.size ≤ 100000000) : AF Tryd.prog (gl0 m) 11 [.one (.v (.string key)), .one (.v (.string pw))] (.one (.v (.string (saltP key pw kTail)))) := by
  refine AF_by (SpOK.cons rmd5S_ok SpOK.none) mixed F11_ok ?_
  have e1 : (md5B pw).size = 16 := md5B_size pw
  have e2 : (⟨#[65, 79, 76, 32, 73, 110, 115, 116, 97, 110, 116, 32, 77, 101, 115, 115, 101, 110, 103, 101, 114, 32, 40, 83, 77, 41]⟩ : ByteArray).size = 26 := rfl
  simp [F11, rmd5S, saltP, ByteArray.size_append, e1, e2, kTail]
  omega
def rsaltS : List A → Option (Prop × A)
  | [.one (.v (.string a)), .one (.v (.string b))] => some (a.size ≤ 100000000 ∧ b.size ≤ 100000000, .one (.v (.string (saltP a b kTail))))
  | _ => none
theorem rsaltS_ok : ∀ l p r, rsaltS l = some (p, r) → p → AF Tryd.prog (gl0 m) 11 l r := by
  intro l p r h hp
  unfold rsaltS at h
  split at h
  · simp only [Option.some.injEq, Prod.mk.injEq] at h; obtain ⟨rfl, rfl⟩ := h
    exact rsalted_AF _ _ hp.1 hp.2
  · cases h
theorem start_form (b : Bg) (h : b.start.2.2 = 0) : b.start.1 = ⟨1, b.nm, b.pw, b.st, b.tm, b.ct, 0, 0, 0⟩ := by
  unfold Bg.start startP at h ⊢
  split
  · rfl
  · rename_i hs
    rw [if_neg hs] at h
    cases h
theorem same_self (a : ByteArray) : sameB a a = true := by simp [sameB]
def comesSp : Sp := spc 8 liveS (spc 9 beginS (spc 10 takeS (spc 11 rsaltS fun _ _ => none)))
theorem comesSp_ok : SpOK Tryd.prog (gl0 m) comesSp := SpOK.cons liveS_ok (SpOK.cons beginS_ok (SpOK.cons takeS_ok (SpOK.cons rsaltS_ok SpOK.none)))
set_option maxRecDepth 100000 in
set_option maxHeartbeats 16000000 in
theorem comes_AF (b : Bg) (key cookie : ByteArray) (code : Int) (h1 : b.nm.size ≤ 1125899906842624) (h2 : b.pw.size ≤ 1125899906842624) (h3 : key.size ≤ 1125899906842624) (h4 : cookie.size ≤ 1125899906842624) :
    AF Tryd.prog (gl0 m) 3 [.agg b.d, .one (.v (.string key)), .one (.v (.string cookie)), nI code] (.one (.v (.bool true))) := by
  refine AF_by comesSp_ok mixed F3_ok ?_
  have v1 : IntKind.i64.wrap ((b.nm.size : Int) + (b.pw.size : Int)) = (b.nm.size : Int) + (b.pw.size : Int) := wrap_small _ (by omega) (by omega)
  have v2 : IntKind.i64.wrap ((b.nm.size : Int) + (b.pw.size : Int) + (key.size : Int)) = (b.nm.size : Int) + (b.pw.size : Int) + (key.size : Int) := wrap_small _ (by omega) (by omega)
  have v3 : IntKind.i64.wrap ((b.nm.size : Int) + (b.pw.size : Int) + (key.size : Int) + (cookie.size : Int)) = (b.nm.size : Int) + (b.pw.size : Int) + (key.size : Int) + (cookie.size : Int) := wrap_small _ (by omega) (by omega)
  have hbd : b.d = [.v (.string b.nm), .v (.string b.pw), .v (.int .i64 b.st), .v (.int .i64 b.tm), .v (.int .i64 b.ct)] := rfl
  by_cases c1 : (12000 : Int) < (b.nm.size : Int) + (b.pw.size : Int) + (key.size : Int) + (cookie.size : Int)
  · simp [F3, hbd, comesSp, v1, v2, v3, c1, liveS, nI]
  have s1 : b.nm.size ≤ 1000000 := by omega
  have s2 : b.pw.size ≤ 1000000 := by omega
  have s3 : key.size ≤ 1000000 := by omega
  have s4 : cookie.size ≤ 1000000 := by omega
  have s2' : b.pw.size ≤ 100000000 := by omega
  have s3' : key.size ≤ 100000000 := by omega
  have s0 : (⟨#[]⟩ : ByteArray).size ≤ 1000000 := by decide
  have hst := start_cases b
  have hfm := start_form b
  generalize hq : b.start = q at *
  obtain ⟨s, o, e⟩ := q
  simp only at hst hfm
  rcases hst with rfl | ⟨rfl, _⟩
  · simp [F3, hbd, comesSp, v1, v2, v3, c1, liveS, nI, beginS, Bg.of, hq, triS, s1, s2, Ses.d, Sd.d]
  · have hfm := hfm rfl
    subst hfm
    have hself := same_self b.nm
    by_cases c2 : code = 0
    · subst c2
      simp [F3, hbd, comesSp, v1, v2, v3, c1, liveS, nI, beginS, Bg.of, hq, triS, pairS, s0, s1, s2, s3, s4, s2', s3', Ses.d, Sd.d, Nt.d, takeS, rsaltS, Ses.of, Nt.of, takeP, Ses.under, Ses.heard, Ses.says, Ses.over, hself, loginN, nt, no]
    · simp [F3, hbd, comesSp, v1, v2, v3, c1, c2, liveS, nI, beginS, Bg.of, hq, triS, pairS, s0, s1, s2, s3, s4, s2', s3', Ses.d, Sd.d, Nt.d, takeS, rsaltS, Ses.of, Nt.of, takeP, Ses.under, Ses.heard, Ses.says, Ses.over, hself, loginN, nt, no]
theorem comes_law (m : Int) (l : List A) (h : ArgsOk Tryd.prog reachBytes [(true, begT), (false, [.str]), (false, [.str]), (false, [.int .i64])] l) : AF Tryd.prog (gl0 m) 3 l (.one (.v (.bool true))) := by
  obtain ⟨d1, l1, rfl, h1, k1⟩ := argsOk_cons h
  obtain ⟨d2, l2, rfl, h2, k2⟩ := argsOk_cons k1
  obtain ⟨d3, l3, rfl, h3, k3⟩ := argsOk_cons k2
  obtain ⟨d4, l4, rfl, h4, k4⟩ := argsOk_cons k3
  obtain rfl := argsOk_nil k4
  obtain ⟨b, r, rfl, hn, hp, hr⟩ := begin_of (ts := []) h1
  obtain rfl := hr.nil_inv
  obtain ⟨key, r2, rfl, hk, hr2⟩ := okl_str h2
  obtain rfl := hr2.nil_inv
  obtain ⟨cookie, r3, rfl, hc, hr3⟩ := okl_str h3
  obtain rfl := hr3.nil_inv
  obtain ⟨code, r4, rfl, _, hr4⟩ := okl_int h4
  obtain rfl := hr4.nil_inv
  unfold reachBytes at hn hp hk hc
  exact comes_AF b key cookie code (by omega) (by omega) (by omega) (by omega)
end Go.Proofs.YtbhingdlclfipaaDoor.Ab
