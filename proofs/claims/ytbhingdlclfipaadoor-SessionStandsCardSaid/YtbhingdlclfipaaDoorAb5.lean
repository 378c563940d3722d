/- An abstract calculus over pure data, part 5: the code's own operations do what part 3 says (structs, slices, numbers, texts). -/
import Derived.Test.YtbhingdlclfipaaDoorAb4
import Derived.Laws.StructEq
import Derived.Laws.Shifts
import Derived.Laws.Runes
import Derived.Laws.Build
namespace Go.Proofs.YtbhingdlclfipaaDoor.Ab
open Go Go.RowKit
set_option linter.unusedVariables false
set_option linter.unusedSimpArgs false

section
variable {P : Program} {o : Oper} {ev : Operand → Value} {M : Gh} {N : Nms} {S : St} {fr : Nat → Prop} {own : Nat → Option Ow} {w : World} {nm : Nat}

/-! ### parts laid into cells -/
theorem foldl_setL {pc : Nat → Nat → Option Value} {N : Nms} (off : Nat) : ∀ (vs : List Value) (j : Nat) (us : Array Value) (ds cs : List D), RepL pc N vs ds → RepL pc N us.toList cs →
    RepL pc N ((vs.zipIdx j).foldl (fun a p => a.setIfInBounds (off + p.2) p.1) us).toList (setL cs (off + j) ds)
  | vs, j, us, [], cs, h, k => by have := h.nil_inv; subst this; simpa [setL] using k
  | vs, j, us, d :: ds, cs, h, k => by
    obtain ⟨v, vs', rfl, h1, h2⟩ := h.cons_inv
    simp only [List.zipIdx_cons, List.foldl_cons, setL]
    have := foldl_setL off vs' (j + 1) (us.setIfInBounds (off + j) v) ds (cs.set (off + j) d) h2 (by rw [Array.toList_setIfInBounds]; exact k.set _ h1)
    simpa [Nat.add_assoc] using this
theorem size_foldl_set (off : Nat) : ∀ (vs : List (Value × Nat)) (us : Array Value), (vs.foldl (fun a p => a.setIfInBounds (off + p.2) p.1) us).size = us.size
  | [], us => rfl
  | p :: r, us => by simp [size_foldl_set off r]
/-- The parts that are given, one behind the other. -/
inductive PartsRep (pc : Nat → Nat → Option Value) (N : Nms) (place : Nat → Option (Nat × Nat)) : List (Nat × Value) → List (Nat × Nat × List D) → Prop
  | nil : PartsRep pc N place [] []
  | cons (i off m : Nat) (v : Value) (ds : List D) (r : List (Nat × Value)) (s : List (Nat × Nat × List D)) (hp : place i = some (off, m)) (hv : RepL pc N v.cells.toList ds) (h : PartsRep pc N place r s) : PartsRep pc N place ((i, v) :: r) ((off, m, ds) :: s)
theorem fill_rep {pc : Nat → Nat → Option Value} {N : Nms} {place : Nat → Option (Nat × Nat)} {ps : List (Nat × Value)} {l : List (Nat × Nat × List D)} (h : PartsRep pc N place ps l) :
    ∀ (us : Array Value) (zs : List D), RepL pc N us.toList zs → partsOK zs.length l → ∃ us', Instr.fill place us ps = some us' ∧ us'.size = us.size ∧ RepL pc N us'.toList (fillL zs l) := by
  induction h with
  | nil => intro us zs hz _; exact ⟨us, rfl, rfl, hz⟩
  | cons i off m v ds r s hp hv h ih =>
    intro us zs hz hok
    obtain ⟨⟨h1, h2⟩, h3⟩ := hok
    have hsz : v.cells.size = m := by have := hv.1; simp at this; omega
    have husz : us.size = zs.length := by have := hz.1; simpa using this
    have hf := foldl_setL off v.cells.toList 0 us ds zs hv hz
    simp only [Nat.add_zero] at hf
    obtain ⟨us', e1, e2, e3⟩ := ih _ (setL zs off ds) hf (by rw [setL_length]; exact h3)
    refine ⟨us', ?_, by rw [e2, size_foldl_set], e3⟩
    simp only [Instr.fill, hp]
    rw [if_neg (by simp [hsz]; omega)]
    rw [← e1]
    congr 1
    rw [← Array.foldl_toList, Array.toList_zipIdx]
theorem run_places {fs : List Field} (h : ∀ f ∈ fs, (P.info? f.type).isSome = true) : ∀ w : World, (fs.mapM fun f => (do pure (f.offset, ← sizeOf f.type) : Sem (Nat × Nat))).run P w = .ok (fs.map fun f => (f.offset, P.cellsOf f.type)) w := by
  induction fs with
  | nil => intro w; simp
  | cons f fs ih =>
    intro w
    obtain ⟨i, hi⟩ := Option.isSome_iff_exists.1 (h f (by simp))
    have ih' := ih (fun g hg => h g (by simp [hg])) w
    simp [List.mapM_cons, sizeOf, typeInfo, hi, Program.cellsOf, Result.andThen] at ih' ⊢
    rw [ih']
theorem d_build {T : TypeId} {qs : Array (Nat × Operand)} {fs : Array Field} {i : TypeInfo} {z : Value} {zs : List D} {l : List (Nat × Nat × List D)} (h : SimO M N S fr own w) (ho : o.op = .build T qs) (hu : P.underlying T = some (.struct fs))
    (hi : P.info? T = some i) (hz : i.zero = some z) (hc : constL z.cells.toList zs = true) (hfs : ∀ f ∈ fs.toList, (P.info? f.type).isSome = true)
    (hp : PartsRep M.pc N (fun j => (fs[j]?).map fun f => (f.offset, P.cellsOf f.type)) (qs.toList.map fun (j, x) => (j, ev x)) l) (hok : partsOK zs.length l) : Done P o ev M N S fr w nm (some (.agg (fillL zs l))) .nil := by
  obtain ⟨us', e1, e2, e3⟩ := fill_rep hp z.cells zs (constL_rep hc) hok
  refine done_pure h (v := .agg us') ?_ ⟨us', rfl, e3⟩
  have hpl : (fs.mapM fun f => (do pure (f.offset, ← sizeOf f.type) : Sem (Nat × Nat))).run P w = .ok (fs.map fun f => (f.offset, P.cellsOf f.type)) w := by
    rw [Array.mapM_eq_mapM_toList]
    simp only [Sem.run_map, run_places hfs w, Result.andThen]
    congr 1
    apply Array.ext'
    simp
  have hpf : (fun (j : Nat) => (fs.map fun (f : Field) => (f.offset, P.cellsOf f.type))[j]?) = fun (j : Nat) => (fs[j]?).map fun (f : Field) => (f.offset, P.cellsOf f.type) := by funext j; simp
  simp only [execOp, ho, Instr.build, zeroValue, typeInfo, Sem.run_bind, run_program, hi, hz, Sem.run_pure, Result.andThen_ok, run_underlying hu, hpl]
  rw [hpf]
  simp only [Array.toList_map, e1, Sem.run_pure, Result.andThen_ok]
end
end Go.Proofs.YtbhingdlclfipaaDoor.Ab
