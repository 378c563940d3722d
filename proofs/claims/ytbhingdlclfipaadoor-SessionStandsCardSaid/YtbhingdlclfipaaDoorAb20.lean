/- An abstract calculus over pure data, part 20: there is an input that fits, in a world that lists what the program's text lays; the cell of the library's own number. -/
import Derived.Test.YtbhingdlclfipaaDoorAb19
import Derived.Lay
import Derived.OpenShut
import Derived.SevenTiedAt
import Derived.JoinedCond
import Derived.Shelf.Vars
import Derived.LaidLaws
namespace Go.Proofs.YtbhingdlclfipaaDoor.Ab
open Go Go.RowKit Go.ChangeShapes
set_option linter.unusedVariables false

theorem witness_row {H : Type} {enc : TypeId × Value → H} {C : Checked} {os : Os} {f : FuncId} {fn : Func} {s : OpenSpec} {conds : List PathCond} {apart : Bool} {laid : List (String × DataW Unit)} (modest : Bool) (w0 : World) (args : Array Value) (hos : w0.os = os)
    (hsh : (w0.forCall (fun _ _ => 0) ⟨#[], args, []⟩).Shaped C.prog)
    (hok : Input.okWideB C.prog (w0.forCall (fun _ _ => 0) ⟨#[], args, []⟩) f ⟨#[], args, []⟩ = true)
    (hrow : s.preRow enc C.prog fn conds apart laid (w0.forCall (fun _ _ => 0) ⟨#[], args, []⟩).memory args) :
    ∃ (w : World) (tape : Tape) (i : Input), w.os = os ∧ (w.forCall tape i).Shaped C.prog ∧ i.vars = [] ∧ Input.okWide C.prog (w.forCall tape i) .any w.heap.size f i ∧
      s.preRow enc C.prog fn conds apart laid (w.forCall tape i).memory i.args ∧ ({ modest := modest } : Assume).holds C.prog (lone (Frame.enter C.prog f i.args .normal) [] (w.forCall tape i)) :=
  ⟨w0, fun _ _ => 0, ⟨#[], args, []⟩, hos, hsh, (Input.okWide_of_okWideB (base := 0) hok).1, (Input.okWide_of_okWideB hok).2, hrow, by
    simp only [Assume.holds]
    exact ⟨by simp, by simp, fun _ => Modest.zero, by simp, by simp⟩⟩
theorem okl_bool {P : Program} {B : Nat} {ts : List Ty} {ds : List D} (h : OkL P B (.bool :: ts) ds) : ∃ b ds', ds = .v (.bool b) :: ds' ∧ OkL P B ts ds' := by
  obtain ⟨d, ds', rfl, h1, h2⟩ := h.cons_inv
  cases h1 with
  | bool b => exact ⟨b, ds', rfl, h2⟩
theorem okl_int {P : Program} {B : Nat} {k : IntKind} {ts : List Ty} {ds : List D} (h : OkL P B (.int k :: ts) ds) : ∃ b ds', ds = .v (.int k b) :: ds' ∧ (Lit.int k b).wf = true ∧ OkL P B ts ds' := by
  obtain ⟨d, ds', rfl, h1, h2⟩ := h.cons_inv
  cases h1 with
  | int _ b hb => exact ⟨b, ds', rfl, hb, h2⟩
theorem okl_str {P : Program} {B : Nat} {ts : List Ty} {ds : List D} (h : OkL P B (.str :: ts) ds) : ∃ b ds', ds = .v (.string b) :: ds' ∧ b.size ≤ B ∧ OkL P B ts ds' := by
  obtain ⟨d, ds', rfl, h1, h2⟩ := h.cons_inv
  cases h1 with
  | str b hb => exact ⟨b, ds', rfl, hb, h2⟩
theorem okl_sl {P : Program} {B : Nat} {e : TypeId} {ts : List Ty} {ds : List D} (h : OkL P B (.sl e :: ts) ds) : ∃ n us xs ds', ds = .sl .no us.length xs :: ds' ∧ leaves P n e = some us ∧ (∀ x ∈ xs, OkL P B us x) ∧ xs.length ≤ B ∧ OkL P B ts ds' := by
  obtain ⟨d, ds', rfl, h1, h2⟩ := h.cons_inv
  cases h1 with
  | sl _ n us xs hl hlen hx hb hn => exact ⟨n, us, xs, ds', rfl, hl, fun x hxm => ⟨hlen x hxm, fun j t d => hx x hxm j t d⟩, hn, h2⟩
theorem leavesS_mono {P : Program} {lf lf' : TypeId → Option (List Ty)} (h : ∀ t us, lf t = some us → lf' t = some us) : ∀ (fs : List Field) (j : Nat) (us : List Ty), leavesS P lf fs j = some us → leavesS P lf' fs j = some us
  | [], j, us, hs => hs
  | f :: fs, j, us, hs => by
    simp only [leavesS] at hs ⊢
    split at hs
    · rename_i ho
      rw [if_pos ho]
      obtain ⟨a, ha, hs⟩ := bind_some hs
      rw [h _ _ ha]
      simp only [Option.bind_some]
      split at hs
      · rename_i hal
        rw [if_pos hal]
        obtain ⟨r, hr, hs⟩ := map_some hs
        rw [leavesS_mono h fs _ _ hr]
        simpa using hs
      · cases hs
    · cases hs
theorem leaves_succ {P : Program} : ∀ (n : Nat) (t : TypeId) (us : List Ty), leaves P n t = some us → leaves P (n + 1) t = some us
  | 0, t, us, h => by simp [leaves] at h
  | n + 1, t, us, h => by
    unfold leaves at h ⊢
    split at h
    · exact h
    · exact h
    · exact h
    · exact h
    · obtain ⟨a, ha, h⟩ := bind_some h
      rw [leavesS_mono (fun t us => leaves_succ n t us) _ _ _ ha]
      exact h
    · cases h
theorem leaves_add {P : Program} {t : TypeId} {us : List Ty} {n : Nat} (h : leaves P n t = some us) : ∀ k, leaves P (n + k) t = some us
  | 0 => h
  | k + 1 => leaves_succ _ _ _ (leaves_add h k)
theorem leaves_eq {P : Program} {t : TypeId} {us us' : List Ty} {n m : Nat} (h : leaves P n t = some us) (k : leaves P m t = some us') : us = us' := by
  have h1 := leaves_add h m
  have h2 := leaves_add k n
  rw [Nat.add_comm] at h2
  rw [h1] at h2
  injection h2
theorem argsOk_cons {P : Program} {B : Nat} {b : Bool} {us : List Ty} {r : List (Bool × List Ty)} {l : List A} (h : ArgsOk P B ((b, us) :: r) l) : ∃ ds l', l = packA b ds :: l' ∧ OkL P B us ds ∧ ArgsOk P B r l' := by
  cases l with
  | nil => exact h.elim
  | cons a l =>
    obtain ⟨⟨ds, h1, rfl⟩, h2⟩ := h
    exact ⟨ds, l, rfl, h1, h2⟩
theorem argsOk_nil {P : Program} {B : Nat} {l : List A} (h : ArgsOk P B [] l) : l = [] := by
  cases l with
  | nil => rfl
  | cons a l => exact h.elim
end Go.Proofs.YtbhingdlclfipaaDoor.Ab
