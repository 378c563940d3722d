/- The layer session, part 10: one that comes in. -/
import Derived.Test.YtbhingdlclfipaaDoorGi
namespace Go.Proofs.YtbhingdlclfipaaDoor.Ab
open Go Go.RowKit Go.Proofs
set_option linter.unusedVariables false
set_option linter.unusedSimpArgs false
variable {m : Int}
theorem start_joe : startB ⟨#[106, 111, 101]⟩ ⟨#[112]⟩ 0 0 0 = true := by kernel_rfl
theorem start_none : startB ⟨#[]⟩ ⟨#[112]⟩ 0 0 0 = false := by kernel_rfl
theorem same_joe : sameB ⟨#[74, 111, 101]⟩ ⟨#[106, 111, 101]⟩ = true := by kernel_rfl
set_option maxRecDepth 100000 in
set_option maxHeartbeats 4000000 in
theorem live_AF : AF Tryd.prog (gl0 m) 8 [] (.one (.v (.bool true))) := by
  refine AF_by liveSp_ok mixed F8_ok ?_
  have q1 : startP ⟨#[106, 111, 101]⟩ ⟨#[112]⟩ 0 0 0 = (⟨1, ⟨#[106, 111, 101]⟩, ⟨#[112]⟩, 0, 0, 0, 0, 0, 0⟩, ⟨[nt 1, { nt 5 with name := ⟨#[106, 111, 101]⟩ }], true, []⟩, 0) := by rw [startP, if_pos start_joe]
  have q2 : startP ⟨#[]⟩ ⟨#[112]⟩ 0 0 0 = (zeroSes, noS, 2) := by rw [startP, if_neg (by rw [start_none]; decide)]
  simp [F8, liveSp, startS, tookS, takeS, lastingS, numS, triS, pairS, q1, q2, Ses.of, Nt.of, Ses.d, Sd.d, Nt.d, nt, no, noS, zeroSes, takeP, Ses.under, Ses.heard, Ses.says, Ses.over, same_joe, loginN, nI, lastingB]
  exact of_decide_eq_true (by kernel_rfl)
def liveS : List A → Option (Prop × A)
  | [] => some (True, .one (.v (.bool true)))
  | _ => none
theorem liveS_ok : ∀ l p r, liveS l = some (p, r) → p → AF Tryd.prog (gl0 m) 8 l r := by
  intro l p r h hp
  unfold liveS at h
  split at h
  · simp only [Option.some.injEq, Prod.mk.injEq] at h; obtain ⟨rfl, rfl⟩ := h
    exact live_AF
  · cases h
/-! ### how much a note is -/
structure It where
  name : ByteArray
  grp : Int
  id : Int
  typ : Int
  alias : ByteArray
  await : Bool
def It.d (n : It) : List D := [.v (.string n.name), .v (.int .i64 n.grp), .v (.int .i64 n.id), .v (.int .i64 n.typ), .v (.string n.alias), .v (.bool n.await)]
def It.len (n : It) : Nat := n.name.size + n.alias.size
def weightGo (most : Nat) : Nat → List It → Nat
  | w, [] => w
  | w, x :: r => if w ≤ most then weightGo most (w + 1 + x.name.size + x.alias.size) r else w
def Nt.len (n : Nt) : Nat := n.name.size + n.text.size + n.data.size + n.codes.length
theorem weightGo_le (most : Nat) : ∀ (l : List It) (w : Nat), w ≤ weightGo most w l
  | [], w => Nat.le_refl _
  | x :: l, w => by
    unfold weightGo
    split
    · exact Nat.le_trans (by omega) (weightGo_le most l _)
    · exact Nat.le_refl _
set_option maxRecDepth 100000 in
set_option maxHeartbeats 4000000 in
theorem weight_AF (n : Nt) (its : List It) (hn : n.items = its.map It.d) (h1 : n.len ≤ 4503599627370496) (h2 : ∀ x ∈ its, x.len ≤ 4503599627370496) (h3 : its.length ≤ 4503599627370496) :
    AF Tryd.prog (gl0 m) 12 [.agg n.d, nI 12000] (nI (weightGo 12000 n.len its : Nat)) := by
  refine AF_by SpOK.none mixed F12_ok ?_
  obtain ⟨k, xn, xt, xd, xc, xs, xi, xtm, xo, items, codes⟩ := n
  simp only at hn
  subst hn
  have hlen : (its.map It.d).length = its.length := List.length_map _
  have hget : ∀ (i : Nat) (a : It), its[i]? = some a → (its.map It.d)[i]? = some a.d := fun i a h => by rw [List.getElem?_map, h]; rfl
  simp only [Nt.len] at h1 ⊢
  have v1 : IntKind.i64.wrap ((xn.size : Int) + (xt.size : Int)) = (xn.size : Int) + (xt.size : Int) := wrap_small _ (by omega) (by omega)
  have v2 : IntKind.i64.wrap ((xn.size : Int) + (xt.size : Int) + (xd.size : Int)) = (xn.size : Int) + (xt.size : Int) + (xd.size : Int) := wrap_small _ (by omega) (by omega)
  have v3 : IntKind.i64.wrap ((xn.size : Int) + (xt.size : Int) + (xd.size : Int) + (codes.length : Int)) = (xn.size : Int) + (xt.size : Int) + (xd.size : Int) + (codes.length : Int) := wrap_small _ (by omega) (by omega)
  generalize htot : weightGo 12000 (xn.size + xt.size + xd.size + codes.length) its = tot
  generalize its.map It.d = ys at *
  simp [F12, Nt.d, nI, v1, v2, v3]
  refine awp_loop (fun k' S => ∃ (i w : Nat), i + k' = its.length ∧ w ≤ 9251799813685248 ∧ weightGo 12000 w (its.drop i) = tot ∧ S.env 1 = some (.one (.v (.int .i64 12000))) ∧ S.env 2 = some (.one (.ptr 0 0)) ∧ S.env 5 = some (.one (.v (.int .i64 w))) ∧ S.env 6 = some (.one (.v (.int .i64 i))) ∧ S.va 1 ∧ S.va 2 ∧ S.va 5 ∧ S.va 6 ∧
    S.bx 0 = some (.cells 37 [.v (.int .i64 k), .v (.string xn), .v (.string xt), .v (.string xd), .v (.int .i64 xc), .v (.int .i64 xs), .v (.int .i64 xi), .v (.int .i64 xtm), .v (.bool xo), .sl .no 6 ys, .sl .no 1 codes]) ∧ 0 < S.nx) ⟨its.length, 0, xn.size + xt.size + xd.size + codes.length, ?_⟩ ?_
  · refine ⟨by omega, by omega, htot, ?_⟩
    simp
  rintro k' S ⟨i, w, hik, hw, hg, e1, e2, e5, e6, u1, u2, u5, u6, hb, hnx⟩
  have hbn : ∀ a b c : Nat, (0 : Nat) < S.nx + a + b + c := fun _ _ _ => by omega
  by_cases hi : i < its.length
  · have hdrop := List.drop_eq_getElem_cons hi
    have ha2 := h2 its[i] (List.getElem_mem hi)
    have hgi := hget i its[i] (List.getElem?_eq_getElem hi)
    generalize its[i] = a at *
    rw [hdrop] at hg
    unfold weightGo at hg
    have hi' : i < ys.length := by omega
    by_cases hc : w ≤ 12000
    · rw [if_pos hc] at hg
      have hc' : (w : Int) ≤ 12000 := by omega
      obtain ⟨an, ag, ai, aty, aa, aw⟩ := a
      simp only [It.len] at ha2 hg
      simp only [It.d] at hgi
      have w0 : IntKind.i64.wrap ((w : Int) + 1) = (w : Int) + 1 := wrap_small _ (by omega) (by omega)
      have w1 : IntKind.i64.wrap ((w : Int) + 1 + (an.size : Int)) = (w : Int) + 1 + (an.size : Int) := wrap_small _ (by omega) (by omega)
      have w2 : IntKind.i64.wrap ((w : Int) + 1 + (an.size : Int) + (aa.size : Int)) = (w : Int) + 1 + (an.size : Int) + (aa.size : Int) := wrap_small _ (by omega) (by omega)
      have w7 : IntKind.i64.wrap ((i : Int) + 1) = (i : Int) + 1 := wrap_small _ (by omega) (by omega)
      have hgi' := (List.getElem?_eq_some_iff.1 hgi).2
      simp [e1, e2, e5, e6, u1, u2, u5, u6, hb, hnx, hbn, hi, hi', hlen, hgi, hgi', hc', w0, w1, w2, w7]
      refine ⟨k' - 1, by omega, i + 1, by omega, w + 1 + an.size + aa.size, by omega, hg, by push_cast; rfl, by push_cast; rfl⟩
    · rw [if_neg hc] at hg
      have hc' : ¬ (w : Int) ≤ 12000 := by omega
      subst hg
      simp [e1, e2, e5, e6, u1, u2, u5, u6, hb, hi, hlen, hc']
  · have hg' : tot = w := by
      rw [List.drop_eq_nil_of_le (by omega)] at hg; exact hg.symm
    simp [e1, e2, e5, e6, u1, u2, u5, u6, hb, hi, hlen, hg']
end Go.Proofs.YtbhingdlclfipaaDoor.Ab
