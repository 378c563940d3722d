/- An abstract calculus over pure data, part 10: the code's operation is ours; what is shown of every operation. -/
import Derived.Test.YtbhingdlclfipaaDoorAb9
namespace Go.Proofs.YtbhingdlclfipaaDoor.Ab
open Go Go.RowKit
set_option linter.unusedVariables false
set_option linter.unusedSimpArgs false

/-! ### the code's operation is ours -/
def szB (P : Program) (t : TypeId) (n : Nat) : Bool := match P.info? t with | some i => i.size == n | none => false
def strB (P : Program) (t : TypeId) : Bool := match P.underlying t with | some .string => true | _ => false
def boolB (P : Program) (t : TypeId) : Bool := match P.underlying t with | some .bool => true | _ => false
def intB (P : Program) (t : TypeId) (k : IntKind) : Bool := match P.underlying t with | some (.int k') => k' == k | _ => false
def bytesB (P : Program) (t : TypeId) : Bool := match P.underlying t with | some (.slice e) => intB P e .u8 | _ => false
def zeroB (P : Program) (t : TypeId) (zs : List D) : Bool := match P.info? t with | some i => (match i.zero with | some z => constL z.cells.toList zs | none => false) | none => false
def mtXs : List Operand → List X → Bool
  | [], [] => true
  | o :: os, x :: xs => mtX o x && mtXs os xs
  | _, _ => false
def mtO : Option Operand → Option X → Bool
  | none, none => true
  | some o, some x => mtX o x
  | _, _ => false
def mtP (P : Program) (fs : Array Field) : List (Nat × Operand) → List (Nat × Nat × X) → Bool
  | [], [] => true
  | (j, o) :: r, (off, n, x) :: s => (match fs[j]? with | some f => f.offset == off && P.cellsOf f.type == n | none => false) && mtX o x && mtP P fs r s
  | _, _ => false
def mtE : Nat → List (Nat × Operand) → List X → Bool
  | _, [], [] => true
  | i, (j, o) :: r, x :: s => i == j && mtX o x && mtE (i + 1) r s
  | _, _, _ => false
def fieldB (P : Program) (T : TypeId) (f : Nat) (p : Field → Bool) : Bool := match P.underlying T with | some (.struct fs) => (match fs[f]? with | some F => p F | none => false) | _ => false
def cellB (P : Program) (T : TypeId) (n : Nat) (ag : Bool) : Bool := (P.underlying T).isSome && szB P T n && isAggB P T == ag && (ag || n == 1)
def funcB (P : Program) (f : FuncId) : Bool := match P.funcs[f]? with | some fn => fn.name != "runtime.NumGoroutine" && fn.body.isSome | none => false
def elemB (P : Program) (e sz bytes : Nat) : Bool := match P.info? e with | some i => i.size == sz && i.bytes == bytes && (match i.zero with | some z => z.cells.size == sz | none => false) && 0 < sz && 0 < bytes | none => false

def mt (P : Program) : Op → I → Bool
  | .move x, .mv y => mtX x y
  | .assign x, .mv y => mtX x y
  | .pick c a b, .pick c' a' b' => mtX c c' && mtX a a' && mtX b b'
  | .alloc T, .alloc T' zs => T == T' && zeroB P T zs
  | .box T x, .box T' y => T == T' && mtX x y
  | .build T qs, .build zs ps => (match P.underlying T with | some (.struct fs) => fs.toList.all (fun f => (P.info? f.type).isSome) && mtP P fs qs.toList ps | _ => false) && zeroB P T zs
  | .buildSlice T n qs, .bsl e sz xs => (match P.underlying T with | some (.slice e') => e' == e | _ => false) && (match P.info? e with | some i => i.size == sz && (match i.zero with | some z => z.cells.size == sz && z.cells.all (·.oneCell') | none => false) | none => false) && 0 < sz && n == xs.length && n * sz ≤ 16777216 && mtE 0 qs.toList xs
  | .load T x, .load n ag y => cellB P T n ag && mtX x y
  | .store T x y, .store n x' y' => szB P T n && mtX x x' && mtX y y'
  | .nilCheck x, .nchk y => mtX x y
  | .binOp op T x y _, .bin op' x' y' => op == op' && mtX x x' && mtX y y'
  | .binOp op T x y _, .eqb neg x' y' => op == (if neg then .neq else .eql) && boolB P T && mtX x x' && mtX y y'
  | .binOp op T x y _, .eqs neg ks x' y' => op == (if neg then .neq else .eql) && (match P.underlying T with | some (.struct fs) => flatB P fs.toList ks 0 | _ => false) && !P.stoodInHeld T && !P.eqGuardType P.depth T && mtX x x' && mtX y y'
  | .unOp op _ x, .un op' y => op == op' && mtX x y
  | .convert s t x, .cvi k y => (P.underlying s).isSome && intB P t k && mtX x y
  | .convert s t x, .cv0 y => strB P s && strB P t && mtX x y
  | .convert s t x, .cvs y => bytesB P s && strB P t && mtX x y
  | .convert s t x, .cvb e y => strB P s && (match P.underlying t with | some (.slice e') => e' == e && intB P e .u8 | _ => false) && mtX x y
  | .convert s t x, .cvm e y => strB P s && (match P.underlying t with | some (.slice e') => e' == e && intB P e .u8 | _ => false) && mtX x y
  | .convert s t x, .cvr y => (P.underlying s).isSome && strB P t && mtX x y
  | .fieldAddr T x f, .fad off y => fieldB P T f (fun F => F.offset == off && (match P.info? F.type with | some i => i.size != 0 | none => false)) && mtX x y
  | .field T x f, .fld off n ag y => fieldB P T f (fun F => F.offset == off && cellB P F.type n ag) && mtX x y
  | .indexAddr T x y, .iad sz x' y' => (match P.underlying T with | some (.slice e) => szB P e sz | _ => false) && mtX x x' && mtX y y'
  | .indexAddr T x y, .iada n sz x' y' => (match P.underlying T with | some (.array n' e) => n' == n && szB P e sz | _ => false) && mtX x x' && mtX y y'
  | .index T x y, .idx x' y' => strB P T && mtX x x' && mtX y y'
  | .slice T x lo hi none, .sls y lo' hi' => strB P T && mtX x y && mtO lo lo' && mtO hi hi'
  | .slice T x lo hi none, .sll sz y lo' hi' => (match P.underlying T with | some (.slice e) => szB P e sz | _ => false) && mtX x y && mtO lo lo' && mtO hi hi'
  | .call { callee := .builtin .len, args := ⟨[x]⟩, argTypes := ⟨[T]⟩ }, .len str y => (if str then strB P T else (match P.underlying T with | some (.slice _) => true | _ => false)) && mtX x y
  | .call { callee := .builtin .append, args := ⟨[x, y]⟩, argTypes := ⟨[T, T']⟩ }, .app e sz bytes x' y' => T == T' && (match P.underlying T with | some (.slice e') => e' == e | _ => false) && elemB P e sz bytes && mtX x x' && mtX y y'
  | .extract x i, .ext y j => i == j && mtX x y
  | .call { callee := .value (.func f), args := ⟨os⟩, .. }, .call g xs => f == g && funcB P f && mtXs os xs
  | _, _ => false

theorem szB_spec {P : Program} {t : TypeId} {n : Nat} (h : szB P t n = true) : ∃ i, P.info? t = some i ∧ i.size = n := by
  unfold szB at h; split at h
  · rename_i i hi; exact ⟨i, hi, by simpa using h⟩
  · cases h
theorem szB_map {P : Program} {t : TypeId} {n : Nat} (h : szB P t n = true) : (P.info? t).map (·.size) = some n := by
  obtain ⟨i, h1, h2⟩ := szB_spec h; simp [h1, h2]
theorem strB_spec {P : Program} {t : TypeId} (h : strB P t = true) : P.underlying t = some .string := by
  unfold strB at h; split at h <;> first | assumption | cases h
theorem boolB_spec {P : Program} {t : TypeId} (h : boolB P t = true) : P.underlying t = some .bool := by
  unfold boolB at h; split at h <;> first | assumption | cases h
theorem intB_spec {P : Program} {t : TypeId} {k : IntKind} (h : intB P t k = true) : P.underlying t = some (.int k) := by
  unfold intB at h; split at h
  · rename_i k' hk; have : k' = k := by simpa using h
    rw [hk, this]
  · cases h
theorem bytesB_spec {P : Program} {t : TypeId} (h : bytesB P t = true) : ∃ e, P.underlying t = some (.slice e) ∧ P.underlying e = some (.int .u8) := by
  unfold bytesB at h; split at h
  · rename_i e he; exact ⟨e, he, intB_spec h⟩
  · cases h
theorem zeroB_spec {P : Program} {t : TypeId} {zs : List D} (h : zeroB P t zs = true) : ∃ i z, P.info? t = some i ∧ i.zero = some z ∧ constL z.cells.toList zs = true := by
  unfold zeroB at h; split at h
  · rename_i i hi; split at h
    · rename_i z hz; exact ⟨i, z, hi, hz, h⟩
    · cases h
  · cases h
theorem slB_spec {P : Program} {t : TypeId} {p : TypeId → Bool} (h : (match P.underlying t with | some (.slice e) => p e | _ => false) = true) : ∃ e, P.underlying t = some (.slice e) ∧ p e = true := by
  split at h
  · rename_i e he; exact ⟨e, he, h⟩
  · cases h
theorem fieldB_spec {P : Program} {T : TypeId} {f : Nat} {p : Field → Bool} (h : fieldB P T f p = true) : ∃ fs F, P.underlying T = some (.struct fs) ∧ fs[f]? = some F ∧ p F = true := by
  unfold fieldB at h; split at h
  · rename_i fs hfs; split at h
    · rename_i F hF; exact ⟨fs, F, hfs, hF, h⟩
    · cases h
  · cases h
theorem cellB_spec {P : Program} {T : TypeId} {n : Nat} {ag : Bool} (h : cellB P T n ag = true) : ∃ d, P.underlying T = some d ∧ (P.info? T).map (·.size) = some n ∧ isAggB P T = ag ∧ (ag = false → n = 1) := by
  simp only [cellB, Bool.and_eq_true, beq_iff_eq, Bool.or_eq_true] at h
  obtain ⟨⟨⟨h1, h2⟩, h3⟩, h4⟩ := h
  obtain ⟨d, hd⟩ := Option.isSome_iff_exists.1 h1
  exact ⟨d, hd, szB_map h2, h3, fun e => by rcases h4 with h4 | h4; (rw [e] at h4; cases h4); exact h4⟩
theorem funcB_spec {P : Program} {f : FuncId} (h : funcB P f = true) : ∃ fn, P.funcs[f]? = some fn ∧ (fn.name == "runtime.NumGoroutine") = false ∧ fn.body.isSome = true := by
  unfold funcB at h; split at h
  · rename_i fn hfn
    simp only [Bool.and_eq_true, bne_iff_ne, ne_eq] at h
    exact ⟨fn, hfn, by simpa using h.1, h.2⟩
  · cases h
theorem elemB_spec {P : Program} {e sz bytes : Nat} (h : elemB P e sz bytes = true) : ∃ i z, P.info? e = some i ∧ i.zero = some z ∧ i.size = sz ∧ i.bytes = bytes ∧ z.cells.size = sz ∧ 0 < sz ∧ 0 < bytes := by
  unfold elemB at h; split at h
  · rename_i i hi
    simp only [Bool.and_eq_true, beq_iff_eq, decide_eq_true_eq] at h
    obtain ⟨⟨⟨⟨h1, h2⟩, h3⟩, h4⟩, h5⟩ := h
    split at h3
    · rename_i z hz; exact ⟨i, z, hi, hz, h1, h2, by simpa using h3, h4, h5⟩
    · cases h3
  · cases h

/-! ### contracts of functions -/
def ArgsRep (pc : Nat → Nat → Option Value) (vs : List Value) (l : List A) : Prop := vs.length = l.length ∧ ∀ (j : Nat) a, l[j]? = some a → ∃ v, vs[j]? = some v ∧ RepB pc Nms.nil v a
/-- What a call leaves: more cells are told; all that was there is there. -/
structure Left (pc pc' : Nat → Nat → Option Value) (w w' : World) : Prop where
  mono : ∀ g i u, pc g i = some u → pc' g i = some u
  holds : ∀ g i u, pc' g i = some u → w'.cell? ⟨g, i, none⟩ = some u
  heap : ∀ g, g < w.heap.size → w'.heap[g]? = w.heap[g]?
  keep : ∀ g, g < w.heap.size → ∀ i, pc' g i = pc g i
  size : w.heap.size ≤ w'.heap.size
  base : w'.os = w.os ∧ w'.tape = w.tape ∧ w'.output = w.output
/-- A function answers arguments that say l by what says r. -/
def AF (P : Program) (gl : List (Nat × Nat × Value)) (f : FuncId) (l : List A) (r : A) : Prop :=
  ∀ (pc : Nat → Nat → Option Value) (w : World) (vs : Array Value), (∀ g i u, pc g i = some u → w.cell? ⟨g, i, none⟩ = some u) → (∀ q ∈ gl, pc q.1 q.2.1 = some q.2.2) → ArgsRep pc vs.toList l →
    Calls P f vs w fun
      | .returned v, w' => ∃ pc', Left pc pc' w w' ∧ RepA pc' Nms.nil v r
      | _, _ => False
/-- What a call leaves that may write some variables. -/
structure LeftP (vars : Nat → Prop) (pc pc' : Nat → Nat → Option Value) (w w' : World) : Prop where
  mono : ∀ g i u, pc g i = some u → pc' g i = some u
  holds : ∀ g i u, pc' g i = some u → w'.cell? ⟨g, i, none⟩ = some u
  heap : ∀ g, g < w.heap.size → ¬ vars g → w'.heap[g]? = w.heap[g]?
  keep : ∀ g, g < w.heap.size → ∀ i, pc' g i = pc g i
  size : w.heap.size ≤ w'.heap.size
  base : w'.os = w.os ∧ w'.tape = w.tape ∧ w'.output = w.output
/-- A variable that lies in a block. -/
def VarAt (pc : Nat → Nat → Option Value) (w : World) (g : Nat) (T : TypeId) (cs : List D) : Prop :=
  ∃ us fz, w.heap[g]? = some (.cells us T fz) ∧ (fz = (0, 0) ∨ us.size ≤ fz.1) ∧ RepL pc Nms.nil (us.toList.take cs.length) cs
/-- Arguments: values, and pointers to variables (written as a tuple of what lies there). -/
def PArgs (pc : Nat → Nat → Option Value) (w : World) : List Value → List A → List (Nat × TypeId) → Prop
  | [], [], [] => True
  | v :: vs, .tup [.agg cs] :: l, (g, T) :: gs => v = .pointer (some ⟨g, 0, none⟩) ∧ VarAt pc w g T cs ∧ (∀ i, pc g i = none) ∧ PArgs pc w vs l gs
  | v :: vs, .one d :: l, gs => RepB pc Nms.nil v (.one d) ∧ PArgs pc w vs l gs
  | v :: vs, .agg cs :: l, gs => RepB pc Nms.nil v (.agg cs) ∧ PArgs pc w vs l gs
  | _, _, _ => False
def PRes (pc : Nat → Nat → Option Value) (w : World) : List (Nat × TypeId) → List (List D) → Prop
  | [], [] => True
  | (g, T) :: gs, cs :: css => VarAt pc w g T cs ∧ PRes pc w gs css
  | _, _ => False
/-- A function that is handed variables: what it answers, and what lies in them behind it. -/
def AFP (P : Program) (gl : List (Nat × Nat × Value)) (f : FuncId) (l : List A) (r : A) (css : List (List D)) : Prop :=
  ∀ (pc : Nat → Nat → Option Value) (w : World) (vs : Array Value) (gs : List (Nat × TypeId)), (∀ g i u, pc g i = some u → w.cell? ⟨g, i, none⟩ = some u) → (∀ q ∈ gl, pc q.1 q.2.1 = some q.2.2) → PArgs pc w vs.toList l gs → (gs.map (·.1)).Nodup →
    Calls P f vs w fun
      | .returned v, w' => ∃ pc', LeftP (· ∈ gs.map (·.1)) pc pc' w w' ∧ RepA pc' Nms.nil v r ∧ PRes pc' w' gs css
      | _, _ => False
/-- A row that one may append to: it has no spare room; or it is nobody else's, and nothing is told behind its end. -/
def OwnRow (pc : Nat → Nat → Option Value) (w : World) (e : TypeId) (sz : Nat) (v : Value) (b : Option Nat) : Prop :=
  (b = none ∧ ∃ A n, v = .slice A n n) ∨
  ∃ g len cap cur, b = some g ∧ v = .slice (some ⟨g, 0, none⟩) len cap ∧ RowAt w.heap[g]? cur e ∧ len ≤ cap ∧ cap ≤ maxLen ∧ cur.size = cap * sz ∧ ∀ i, len * sz ≤ i → pc g i = none
/-- What a call leaves that may append to a row. -/
structure LeftT (b : Option Nat) (pc pc' : Nat → Nat → Option Value) (w w' : World) : Prop where
  mono : ∀ g i u, pc g i = some u → pc' g i = some u
  holds : ∀ g i u, pc' g i = some u → w'.cell? ⟨g, i, none⟩ = some u
  heap : ∀ g, g < w.heap.size → b ≠ some g → w'.heap[g]? = w.heap[g]?
  keep : ∀ g, g < w.heap.size → b ≠ some g → ∀ i, pc' g i = pc g i
  size : w.heap.size ≤ w'.heap.size
  base : w'.os = w.os ∧ w'.tape = w.tape ∧ w'.output = w.output
/-- A function that is handed a row first, to append to, and gives it back. -/
def AFT (P : Program) (gl : List (Nat × Nat × Value)) (f : FuncId) (e : TypeId) (sz : Nat) (xs : List (List D)) (l : List A) (ys : List (List D)) : Prop :=
  ∀ (pc : Nat → Nat → Option Value) (w : World) (v : Value) (vs : List Value) (b : Option Nat), (∀ g i u, pc g i = some u → w.cell? ⟨g, i, none⟩ = some u) → (∀ q ∈ gl, pc q.1 q.2.1 = some q.2.2) →
    Rep pc Nms.nil v (.sl .no sz xs) → OwnRow pc w e sz v b → ArgsRep pc vs l →
    Calls P f (v :: vs).toArray w fun
      | .returned v', w' => ∃ pc' b', LeftT b pc pc' w w' ∧ Rep pc' Nms.nil v' (.sl .no sz ys) ∧ OwnRow pc' w' e sz v' b' ∧ (∀ g, b' = some g → b = some g ∨ w.heap.size ≤ g)
      | _, _ => False
/-- What is told of a function: of values; behind the mark (), handed variables; behind the mark (()), handed a row. -/
def Tells (P : Program) (gl : List (Nat × Nat × Value)) (f : FuncId) (r : A) : List A → Prop
  | .tup [] :: l => ∃ r0 css, r = .tup (r0 :: css.map .agg) ∧ AFP P gl f l r0 css
  | .tup [.one (.mp e)] :: .one (.sl .full sz xs) :: l => ∃ ys, r = .one (.sl .full sz ys) ∧ AFT P gl f e sz xs l ys
  | .tup _ :: _ => False
  | l => AF P gl f l r
def SpOK (P : Program) (gl : List (Nat × Nat × Value)) (sp : Sp) : Prop := ∀ f l p r, sp f l = some (p, r) → p → Tells P gl f r l
theorem ArgsRep_tup {pc : Nat → Nat → Option Value} {vs : List Value} {q : List A} {l : List A} (h : ArgsRep pc vs (.tup q :: l)) : False := by
  obtain ⟨v, _, hr⟩ := h.2 0 (.tup q) rfl
  exact hr
theorem SpOK.af {P : Program} {gl : List (Nat × Nat × Value)} {sp : Sp} (h : SpOK P gl sp) {f : FuncId} {l : List A} {p : Prop} {r : A} (hs : sp f l = some (p, r)) (hp : p) : AF P gl f l r := by
  have h1 := h f l p r hs hp
  have vac : ∀ q l', l = .tup q :: l' → AF P gl f l r := by
    rintro q l' rfl pc w vs _ _ ha
    exact (ArgsRep_tup ha).elim
  cases l with
  | nil => exact h1
  | cons a l =>
    cases a with
    | one d => exact h1
    | agg cs => exact h1
    | tup q => exact vac q l rfl
theorem SpOK.afp {P : Program} {gl : List (Nat × Nat × Value)} {sp : Sp} (h : SpOK P gl sp) {f : FuncId} {l : List A} {p : Prop} {r : A} (hs : sp f (.tup [] :: l) = some (p, r)) (hp : p) : ∃ r0 css, r = .tup (r0 :: css.map .agg) ∧ AFP P gl f l r0 css := h f _ p r hs hp
theorem SpOK.aft {P : Program} {gl : List (Nat × Nat × Value)} {sp : Sp} (h : SpOK P gl sp) {f : FuncId} {e sz : Nat} {xs : List (List D)} {l : List A} {p : Prop} {r : A} (hs : sp f (.tup [.one (.mp e)] :: .one (.sl .full sz xs) :: l) = some (p, r)) (hp : p) :
    ∃ ys, r = .one (.sl .full sz ys) ∧ AFT P gl f e sz xs l ys := h f _ p r hs hp

section
variable {P : Program} {o : Oper} {ev : Operand → Value} {M : Gh} {N : Nms} {S : St} {fr : Nat → Prop} {own : Nat → Option Ow} {w : World} {nm : Nat}

theorem SimO.called (h : SimO M N S fr own w) {pc' : Nat → Nat → Option Value} {w' : World} (k : Left M.pc pc' w w') : M.Le { M with pc := pc' } ∧ SimO { M with pc := pc' } N S fr own w' := by
  refine ⟨⟨k.mono, fun _ _ e => e, rfl, rfl, fun g hg i => k.keep g (h.fro g hg).1 i, rfl, rfl⟩, ⟨⟨k.base.1.trans h.base.1, k.base.2.1.trans h.base.2.1, k.base.2.2.trans h.base.2.2⟩, k.holds, fun g q e => ?_, fun g hg => ⟨Nat.lt_of_lt_of_le (h.fro g hg).1 k.size, (h.fro g hg).2⟩, fun g q e => Nat.lt_of_lt_of_le (h.lt g q e) k.size, fun n b e => ?_, fun t q e => ?_, h.fresh, fun q hq => k.mono _ _ _ (h.glob q hq), h.nb, Nat.le_trans h.big k.size⟩⟩
  · rw [k.heap g (h.im_lt e)]; exact h.im g q e
  · obtain ⟨g, q, h1, h2, h3, h4, h5, h6⟩ := h.box n b e
    have hlt := h.lt g _ h2
    exact ⟨g, q, h1, h2, by rw [k.heap g hlt]; exact h3, h4.mono k.mono (Nms.Le.refl _), h5, fun i => by show pc' g i = none; rw [k.keep g hlt]; exact h6 i⟩
  · obtain ⟨v, h1, h2⟩ := h.tok t q e
    refine ⟨v, h1, ?_⟩
    rcases h2 with h2 | ⟨g, len, cap, cur, h2, h3, h4, h5, h6, h7, h8, h9⟩
    · exact .inl h2
    · have hlt := h.lt g _ h3
      exact .inr ⟨g, len, cap, cur, h2, h3, by rw [k.heap g hlt]; exact h4, h5, h6, h7, h8, fun i hi => by show pc' g i = none; rw [k.keep g hlt]; exact h9 i hi⟩

theorem RepL.clf {pc : Nat → Nat → Option Value} {N : Nms} : ∀ {vs : List Value} {ds ds' : List D}, RepL pc N vs ds → clfL ds = some ds' → RepL pc Nms.nil vs ds'
  | vs, [], ds', h, e => by
    have := h.nil_inv; subst this
    simp only [clfL, Option.some.injEq] at e; subst e
    exact RepL.nil _ _
  | vs, d :: ds, ds', h, e => by
    obtain ⟨v, vs', rfl, h1, h2⟩ := h.cons_inv
    simp only [clfL] at e
    obtain ⟨d', hd, e⟩ := Option.bind_eq_some_iff.1 e
    obtain ⟨r, hr, rfl⟩ := Option.map_eq_some_iff.1 e
    exact RepL.cons (h1.clf hd) (h2.clf hr)
theorem RepA.clf {pc : Nat → Nat → Option Value} {N : Nms} {v : Value} {a a' : A} (h : RepA pc N v a) (e : a.clf = some a') : RepB pc Nms.nil v a' := by
  cases a with
  | one d =>
    obtain ⟨d', hd, rfl⟩ := Option.map_eq_some_iff.1 e
    exact Rep.clf h hd
  | agg cs =>
    obtain ⟨cs', hc, rfl⟩ := Option.map_eq_some_iff.1 e
    obtain ⟨us, rfl, h⟩ := h
    exact ⟨us, rfl, h.clo hc⟩
  | tup vs => cases e
theorem RepB.A {pc : Nat → Nat → Option Value} {N : Nms} {v : Value} {a : A} (h : RepB pc N v a) : RepA pc N v a := by
  cases a with
  | one d => exact h
  | agg cs => exact h
  | tup vs => exact h.elim
theorem RepA.flat {pc : Nat → Nat → Option Value} {N : Nms} {v : Value} {a : A} {l : List D} (h : RepA pc N v a) (e : a.flat = some l) : RepB pc N v a ∧ a.cells = l := by
  cases a with
  | one d => simp only [A.flat, Option.some.injEq] at e; exact ⟨h, e⟩
  | agg cs => simp only [A.flat, Option.some.injEq] at e; exact ⟨h, e⟩
  | tup vs => cases e

/-- All the slots say what they say. -/
def allV (va : Nat → Prop) : List Nat → Prop
  | [] => True
  | s :: r => va s ∧ allV va r
theorem allV_mem {va : Nat → Prop} : ∀ {l : List Nat}, allV va l → ∀ s ∈ l, va s
  | [], _, s, h => by cases h
  | x :: r, h, s, hs => by
    rcases List.mem_cons.1 hs with rfl | hs
    · exact h.1
    · exact allV_mem h.2 s hs
def I.need (env : Nat → Option A) (va : Nat → Prop) : I → Prop
  | .pick c a b => allV va c.slot ∧ (match c.val env with | some (.one (.v (.bool t))) => (t = true → allV va a.slot) ∧ (t = false → allV va b.slot) | _ => True)
  | i => allV va i.slots

variable {a : Act}
theorem args_rep {env : Nat → Option A} {va : Nat → Prop} (he : EnvRep M.pc N env va a.tmps) : ∀ {os : List Operand} {xs : List X} {l : List A}, mtXs os xs = true → args env xs = some l → (∀ s ∈ xs.flatMap X.slot, va s) → ArgsRep M.pc (os.map a.eval) l
  | [], [], l, _, hl, _ => by simp only [args, Option.some.injEq] at hl; subst hl; exact ⟨rfl, by simp⟩
  | [], _ :: _, _, hm, _, _ => by simp [mtXs] at hm
  | _ :: _, [], _, hm, _, _ => by simp [mtXs] at hm
  | o :: os, x :: xs, l, hm, hl, hva => by
    simp only [mtXs, Bool.and_eq_true] at hm
    simp only [args] at hl
    obtain ⟨r, hr, hl⟩ := Option.bind_eq_some_iff.1 hl
    obtain ⟨c, hc, hl⟩ := Option.bind_eq_some_iff.1 hl
    obtain ⟨l', hl', rfl⟩ := Option.map_eq_some_iff.1 hl
    have h1 := (mtX_rep hm.1 hr (fun n hn => hva n (by simp [hn])) he).clf hc
    have h2 := args_rep he hm.2 hl' (fun n hn => hva n (by simp only [List.flatMap_cons, List.mem_append]; exact .inr hn))
    refine ⟨by simp [h2.1], fun j b hb => ?_⟩
    cases j with
    | zero => simp only [List.getElem?_cons_zero, Option.some.injEq] at hb; subst hb; exact ⟨_, rfl, h1⟩
    | succ j => simpa using h2.2 j b (by simpa using hb)
theorem parts_rep {env : Nat → Option A} {va : Nat → Prop} (he : EnvRep M.pc N env va a.tmps) {fs : Array Field} : ∀ {qs : List (Nat × Operand)} {ps : List (Nat × Nat × X)} {l : List (Nat × Nat × List D)}, mtP P fs qs ps = true → parts env ps = some l → (∀ s ∈ ps.flatMap (fun p => p.2.2.slot), va s) →
    PartsRep M.pc N (fun j => (fs[j]?).map fun f => (f.offset, P.cellsOf f.type)) (qs.map fun (j, x) => (j, a.eval x)) l
  | [], [], l, _, hl, _ => by simp only [parts, Option.some.injEq] at hl; subst hl; exact .nil
  | [], _ :: _, _, hm, _, _ => by simp [mtP] at hm
  | _ :: _, [], _, hm, _, _ => by simp [mtP] at hm
  | (j, o) :: qs, (off, n, x) :: ps, l, hm, hl, hva => by
    simp only [mtP, Bool.and_eq_true] at hm
    simp only [parts] at hl
    obtain ⟨r, hr, hl⟩ := Option.bind_eq_some_iff.1 hl
    obtain ⟨c, hc, hl⟩ := Option.bind_eq_some_iff.1 hl
    obtain ⟨l', hl', rfl⟩ := Option.map_eq_some_iff.1 hl
    obtain ⟨h1, h1'⟩ := (mtX_rep hm.1.2 hr (fun n hn => hva n (by simp [hn])) he).flat hc
    have h2 := parts_rep he hm.2 hl' (fun n hn => hva n (by simp only [List.flatMap_cons, List.mem_append]; exact .inr hn))
    have h3 := hm.1.1
    refine .cons j off n _ c _ _ ?_ (by rw [← h1']; exact RepA.cells h1) h2
    split at h3
    · rename_i f hf
      simp only [Bool.and_eq_true, beq_iff_eq] at h3
      simp [hf, h3.1, h3.2]
    · cases h3
theorem elems_rep {env : Nat → Option A} {va : Nat → Prop} (he : EnvRep M.pc N env va a.tmps) : ∀ {qs : List (Nat × Operand)} {xs : List X} {l : List (List D)} {i : Nat}, mtE i qs xs = true → elems env xs = some l → (∀ s ∈ xs.flatMap X.slot, va s) →
    ∃ vs, (qs.map fun (j, x) => (j, a.eval x)) = (vs.zipIdx i).map (fun (v, j) => (j, v)) ∧ ElemsRep M.pc vs l ∧ xs.length = l.length
  | [], [], l, i, _, hl, _ => by simp only [elems, Option.some.injEq] at hl; subst hl; exact ⟨[], rfl, .nil, rfl⟩
  | [], _ :: _, _, _, hm, _, _ => by simp [mtE] at hm
  | _ :: _, [], _, _, hm, _, _ => by simp [mtE] at hm
  | (j, o) :: qs, x :: xs, l, i, hm, hl, hva => by
    simp only [mtE, Bool.and_eq_true, beq_iff_eq] at hm
    simp only [elems] at hl
    obtain ⟨r, hr, hl⟩ := Option.bind_eq_some_iff.1 hl
    obtain ⟨c, hc, hl⟩ := Option.bind_eq_some_iff.1 hl
    obtain ⟨c', hc', hl⟩ := Option.bind_eq_some_iff.1 hl
    obtain ⟨l', hl', rfl⟩ := Option.map_eq_some_iff.1 hl
    obtain ⟨h1, h1'⟩ := (mtX_rep hm.1.2 hr (fun n hn => hva n (by simp [hn])) he).flat hc
    obtain ⟨vs, h2, h3, h4⟩ := elems_rep he hm.2 hl' (fun n hn => hva n (by simp only [List.flatMap_cons, List.mem_append]; exact .inr hn))
    refine ⟨a.eval o :: vs, ?_, .cons _ _ _ _ ?_ h3, by simp [h4]⟩
    · simp only [List.map_cons, List.zipIdx_cons, h2, hm.1.1]
    · have := RepA.cells h1
      rw [h1'] at this
      exact this.clo hc'
theorem bnd_ok {env : Nat → Option A} {va : Nat → Prop} (he : EnvRep M.pc N env va a.tmps) {d i : Int} {o : Option Operand} {x : Option X} (hm : mtO o x = true) (hb : bnd d x env = some i) (hva : ∀ s ∈ x.toList.flatMap X.slot, va s) : bndOK (o.map a.eval) d i := by
  cases o <;> cases x <;> simp only [mtO, bnd, reduceCtorEq, Option.some.injEq] at hm hb
  · exact .inl ⟨rfl, hb.symm⟩
  · rename_i o x
    split at hb
    · rename_i k n heq
      injection hb with hb; subst hb
      have := (mtX_rep hm heq (fun n hn => hva n (by simpa using hn)) he).B.v_inv
      exact .inr ⟨k, by simp [this]⟩
    · cases hb
end
end Go.Proofs.YtbhingdlclfipaaDoor.Ab
