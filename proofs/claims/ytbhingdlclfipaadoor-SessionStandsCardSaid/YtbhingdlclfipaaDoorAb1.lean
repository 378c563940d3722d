/- An abstract calculus over pure data, part 1: data, what represents them in memory, the state of a piece of code. Over any program. -/
import Derived.Below
import Derived.Calls
import Derived.Orders
import Derived.KernelRfl
import Derived.Laws.AppendOwn
import Derived.Laws.Rows
import Derived.Deep.Draws
import Derived.Tactics
namespace Go.Proofs.YtbhingdlclfipaaDoor.Ab
open Go Go.RowKit

/-- May a row be appended to: not known; it has no spare room; it is the row of a token. -/
inductive Tk where
  | no | full | tk (n : Nat)
  deriving DecidableEq

/-- What one cell says. -/
inductive D where
  | v (u : Value)
  | sl (t : Tk) (sz : Nat) (xs : List (List D))
  | ptr (n off : Nat)
  | ea (cs : List D)
  | fn (f : Fn) (first cap : List D)
  | mp (n : Nat)
  | it (n : Nat)
  | rs (n off len : Nat)
  | ow (n len cap : Nat)

/-- What one value says: one cell; a struct or an array; several results. -/
inductive A where
  | one (d : D)
  | agg (cs : List D)
  | tup (vs : List A)

def A.cells : A → List D
  | .one d => [d]
  | .agg cs => cs
  | .tup _ => []


structure Nms where
  bx : Nat → Option Nat
  tk : Nat → Option Value

def Nms.nil : Nms := ⟨fun _ => Option.none, fun _ => Option.none⟩

structure Nms.Le (N N' : Nms) : Prop where
  bx : ∀ n g, N.bx n = some g → N'.bx n = some g
  tk : ∀ n v, N.tk n = some v → N'.tk n = some v
theorem Nms.Le.refl (N : Nms) : N.Le N := ⟨fun _ _ h => h, fun _ _ h => h⟩
theorem Nms.Le.trans {a b c : Nms} (h : a.Le b) (k : b.Le c) : a.Le c := ⟨fun n g e => k.bx n g (h.bx n g e), fun n v e => k.tk n v (h.tk n v e)⟩
theorem Nms.nil_le (N : Nms) : Nms.nil.Le N := ⟨fun _ _ h => (by cases h), fun _ _ h => (by cases h)⟩

/-- Ghost: cells that never change any more; blocks that never change any more; blocks of others; the world in which all began; what some variables of the program hold; names from the beginning. -/
structure Gh where
  pc : Nat → Nat → Option Value
  im : Nat → Option Obj
  fro : Nat → Prop
  w0 : World
  gl : List (Nat × Nat × Value)
  nb : Nms
structure Gh.Le (M M' : Gh) : Prop where
  pc : ∀ g i u, M.pc g i = some u → M'.pc g i = some u
  im : ∀ g o, M.im g = some o → M'.im g = some o
  fro : M'.fro = M.fro
  w0 : M'.w0 = M.w0
  keep : ∀ g, M.fro g → ∀ i, M'.pc g i = M.pc g i
  gl : M'.gl = M.gl
  nb : M'.nb = M.nb
theorem Gh.Le.refl (M : Gh) : M.Le M := ⟨fun _ _ _ h => h, fun _ _ h => h, rfl, rfl, fun _ _ _ => rfl, rfl, rfl⟩
theorem Gh.Le.trans {a b c : Gh} (h : a.Le b) (k : b.Le c) : a.Le c :=
  ⟨fun g i u e => k.pc g i u (h.pc g i u e), fun g o e => k.im g o (h.im g o e), k.fro.trans h.fro, k.w0.trans h.w0,
   fun g hg i => (k.keep g (by rw [h.fro]; exact hg) i).trans (h.keep g hg i), k.gl.trans h.gl, k.nb.trans h.nb⟩

def TkOK (N : Nms) (A : Option Addr) (n cap : Nat) : Tk → Prop
  | .no => True
  | .full => cap = n
  | .tk m => N.tk m = some (.slice A n cap)

/-- A value says a datum. What lies in rows bears no names. -/
inductive Rep (pc : Nat → Nat → Option Value) : Nms → Value → D → Prop
  | v (N : Nms) (u : Value) (h : u.oneCell' = true) : Rep pc N u (.v u)
  | sl (N : Nms) (A : Option Addr) (cap : Nat) (t : Tk) (sz : Nat) (xs : List (List D)) (g off : Nat) (u : Nat → Nat → Value)
      (hA : cap = 0 ∨ A = some ⟨g, off, none⟩)
      (hl : ∀ x ∈ xs, x.length = sz) (hc : xs.length ≤ cap) (hm : cap ≤ maxLen)
      (hp : ∀ i, i < xs.length → ∀ k, k < sz → pc g (off + i * sz + k) = some (u i k))
      (hr : ∀ i k d, (xs[i]?.bind (·[k]?)) = some d → Rep pc Nms.nil (u i k) d)
      (ht : TkOK N A xs.length cap t) : Rep pc N (.slice A xs.length cap) (.sl t sz xs)
  | ptr (N : Nms) (n off g : Nat) (h : N.bx n = some g) : Rep pc N (.pointer (some ⟨g, off, none⟩)) (.ptr n off)
  | ea (N : Nms) (cs : List D) (g o : Nat) (u : Nat → Value) (hp : ∀ j, j < cs.length → pc g (o + j) = some (u j))
      (hr : ∀ j d, cs[j]? = some d → Rep pc Nms.nil (u j) d) : Rep pc N (.pointer (some ⟨g, o, none⟩)) (.ea cs)
  | fn (N : Nms) (f : Fn) (first cap : List D) (fs us : Array Value) (h1 : fs.size = first.length) (h2 : us.size = cap.length)
      (hf : ∀ j d, first[j]? = some d → Rep pc N (fs.getD j undef) d) (hu : ∀ j d, cap[j]? = some d → Rep pc N (us.getD j undef) d) :
      Rep pc N (.func f fs us) (.fn f first cap)
  | mp (N : Nms) (n g : Nat) (h : N.bx n = some g) : Rep pc N (.map (some g)) (.mp n)
  | it (N : Nms) (n g : Nat) (h : N.bx n = some g) : Rep pc N (.pointer (some ⟨g, 0, none⟩)) (.it n)
  | rs (N : Nms) (n off len cap g : Nat) (h : N.bx n = some g) (hc : len ≤ cap) (hm : cap ≤ maxLen) : Rep pc N (.slice (some ⟨g, off, none⟩) len cap) (.rs n off len)
  | ow (N : Nms) (n len cap g : Nat) (h : N.bx n = some g) (hc : len ≤ cap) (hm : cap ≤ maxLen) : Rep pc N (.slice (some ⟨g, 0, none⟩) len cap) (.ow n len cap)

theorem TkOK.mono {N N' : Nms} (hN : N.Le N') {A : Option Addr} {n cap : Nat} {t : Tk} (h : TkOK N A n cap t) : TkOK N' A n cap t := by
  cases t with
  | no => trivial
  | full => exact h
  | tk m => exact hN.tk _ _ h

theorem Rep.mono {pc pc' : Nat → Nat → Option Value} {N : Nms} (hpc : ∀ g i u, pc g i = some u → pc' g i = some u) {v : Value} {d : D} (h : Rep pc N v d) : ∀ {N' : Nms}, N.Le N' → Rep pc' N' v d := by
  induction h with
  | v N u h => intro N' hN; exact .v N' u h
  | sl N A cap t sz xs g off u hA hl hc hm hp hr ht ih => intro N' hN; exact .sl N' A cap t sz xs g off u hA hl hc hm (fun i hi k hk => hpc _ _ _ (hp i hi k hk)) (fun i k d hd => ih i k d hd (Nms.Le.refl _)) (ht.mono hN)
  | ptr N n off g h => intro N' hN; exact .ptr N' n off g (hN.bx _ _ h)
  | ea N cs g o u hp hr ih => intro N' hN; exact .ea N' cs g o u (fun j hj => hpc _ _ _ (hp j hj)) (fun j d hd => ih j d hd (Nms.Le.refl _))
  | fn N f first cap fs us h1 h2 hf hu ih1 ih2 => intro N' hN; exact .fn N' f first cap fs us h1 h2 (fun j d hd => ih1 j d hd hN) (fun j d hd => ih2 j d hd hN)
  | mp N n g h => intro N' hN; exact .mp N' n g (hN.bx _ _ h)
  | it N n g h => intro N' hN; exact .it N' n g (hN.bx _ _ h)
  | rs N n off len cap g h hc hm => intro N' hN; exact .rs N' n off len cap g (hN.bx _ _ h) hc hm
  | ow N n len cap g h hc hm => intro N' hN; exact .ow N' n len cap g (hN.bx _ _ h) hc hm

theorem Rep.oneCell {pc : Nat → Nat → Option Value} {N : Nms} {v : Value} {d : D} (h : Rep pc N v d) : v.oneCell' = true := by
  cases h <;> first | assumption | rfl

/-- The same without names. -/
def D.clo : D → Option D
  | .v u => some (.v u)
  | .sl _ sz xs => some (.sl .no sz xs)
  | _ => none
/-- The same, without names, but with what is known of the room. -/
def D.clf : D → Option D
  | .v u => some (.v u)
  | .sl .full sz xs => some (.sl .full sz xs)
  | .sl _ sz xs => some (.sl .no sz xs)
  | .ea cs => some (.ea cs)
  | _ => none
theorem Rep.clo {pc : Nat → Nat → Option Value} {N : Nms} {v : Value} {d d' : D} (h : Rep pc N v d) (e : d.clo = some d') : Rep pc Nms.nil v d' := by
  cases h with
  | v _ u h => simp only [D.clo, Option.some.injEq] at e; subst e; exact .v _ _ h
  | sl _ A cap t sz xs g off u hA hl hc hm hp hr ht => simp only [D.clo, Option.some.injEq] at e; subst e; exact .sl _ A cap .no sz xs g off u hA hl hc hm hp hr trivial
  | ptr => simp [D.clo] at e
  | ea => simp [D.clo] at e
  | fn => simp [D.clo] at e
  | mp => simp [D.clo] at e
  | it => simp [D.clo] at e
  | rs => simp [D.clo] at e
  | ow => simp [D.clo] at e
theorem Rep.clf {pc : Nat → Nat → Option Value} {N : Nms} {v : Value} {d d' : D} (h : Rep pc N v d) (e : d.clf = some d') : Rep pc Nms.nil v d' := by
  cases h with
  | v _ u h => simp only [D.clf, Option.some.injEq] at e; subst e; exact .v _ _ h
  | sl _ A cap t sz xs g off u hA hl hc hm hp hr ht =>
    cases t with
    | full => simp only [D.clf, Option.some.injEq] at e; subst e; exact .sl _ A cap .full sz xs g off u hA hl hc hm hp hr ht
    | no => simp only [D.clf, Option.some.injEq] at e; subst e; exact .sl _ A cap .no sz xs g off u hA hl hc hm hp hr trivial
    | tk m => simp only [D.clf, Option.some.injEq] at e; subst e; exact .sl _ A cap .no sz xs g off u hA hl hc hm hp hr trivial
  | ptr => simp [D.clf] at e
  | ea _ cs g o u hp hr => simp only [D.clf, Option.some.injEq] at e; subst e; exact .ea _ cs g o u hp hr
  | fn => simp [D.clf] at e
  | mp => simp [D.clf] at e
  | it => simp [D.clf] at e
  | rs => simp [D.clf] at e
  | ow => simp [D.clf] at e

/-- Values say data, place by place. -/
def RepL (pc : Nat → Nat → Option Value) (N : Nms) (vs : List Value) (ds : List D) : Prop :=
  vs.length = ds.length ∧ ∀ (j : Nat) d, ds[j]? = some d → ∃ v, vs[j]? = some v ∧ Rep pc N v d
theorem RepL.mono {pc pc' : Nat → Nat → Option Value} {N N' : Nms} (hpc : ∀ g i u, pc g i = some u → pc' g i = some u) (hN : N.Le N') {vs : List Value} {ds : List D} (h : RepL pc N vs ds) : RepL pc' N' vs ds :=
  ⟨h.1, fun j d hd => let ⟨v, hv, hr⟩ := h.2 j d hd; ⟨v, hv, hr.mono hpc hN⟩⟩
theorem RepL.nil (pc : Nat → Nat → Option Value) (N : Nms) : RepL pc N [] [] := ⟨rfl, fun j d h => by simp at h⟩
theorem RepL.cons {pc : Nat → Nat → Option Value} {N : Nms} {v : Value} {vs : List Value} {d : D} {ds : List D} (h : Rep pc N v d) (k : RepL pc N vs ds) : RepL pc N (v :: vs) (d :: ds) :=
  ⟨by simp [k.1], fun j e he => by
    cases j with
    | zero => simp only [List.getElem?_cons_zero, Option.some.injEq] at he; subst he; exact ⟨v, rfl, h⟩
    | succ j => simpa using k.2 j e (by simpa using he)⟩
theorem RepL.cons_inv {pc : Nat → Nat → Option Value} {N : Nms} {vs : List Value} {d : D} {ds : List D} (h : RepL pc N vs (d :: ds)) : ∃ v us, vs = v :: us ∧ Rep pc N v d ∧ RepL pc N us ds := by
  obtain ⟨hl, hr⟩ := h
  cases vs with
  | nil => simp at hl
  | cons v us =>
    refine ⟨v, us, rfl, ?_, by simpa using hl, fun j e he => ?_⟩
    · obtain ⟨u, hu, hu'⟩ := hr 0 d rfl
      simp only [List.getElem?_cons_zero, Option.some.injEq] at hu
      subst hu; exact hu'
    · obtain ⟨u, hu, hu'⟩ := hr (j + 1) e (by simpa using he)
      exact ⟨u, by simpa using hu, hu'⟩
theorem RepL.nil_inv {pc : Nat → Nat → Option Value} {N : Nms} {vs : List Value} (h : RepL pc N vs []) : vs = [] := List.eq_nil_of_length_eq_zero h.1
theorem RepL.append {pc : Nat → Nat → Option Value} {N : Nms} {vs us : List Value} {ds es : List D} (h : RepL pc N vs ds) (k : RepL pc N us es) : RepL pc N (vs ++ us) (ds ++ es) := by
  refine ⟨by simp [h.1, k.1], fun j d hd => ?_⟩
  rcases Nat.lt_or_ge j ds.length with hj | hj
  · rw [List.getElem?_append_left hj] at hd
    obtain ⟨v, hv, hr⟩ := h.2 j d hd
    exact ⟨v, by rw [List.getElem?_append_left (by rw [h.1]; exact hj)]; exact hv, hr⟩
  · rw [List.getElem?_append_right hj] at hd
    obtain ⟨v, hv, hr⟩ := k.2 _ d hd
    exact ⟨v, by rw [List.getElem?_append_right (by rw [h.1]; exact hj), h.1]; exact hv, hr⟩
theorem RepL.take {pc : Nat → Nat → Option Value} {N : Nms} {vs : List Value} {ds : List D} (h : RepL pc N vs ds) (n : Nat) : RepL pc N (vs.take n) (ds.take n) := by
  refine ⟨by simp [h.1], fun j d hd => ?_⟩
  rw [List.getElem?_take] at hd
  split at hd
  · rename_i hj
    obtain ⟨v, hv, hr⟩ := h.2 j d hd
    exact ⟨v, by rw [List.getElem?_take, if_pos hj]; exact hv, hr⟩
  · cases hd
theorem RepL.drop {pc : Nat → Nat → Option Value} {N : Nms} {vs : List Value} {ds : List D} (h : RepL pc N vs ds) (n : Nat) : RepL pc N (vs.drop n) (ds.drop n) := by
  refine ⟨by simp [h.1], fun j d hd => ?_⟩
  rw [List.getElem?_drop] at hd
  obtain ⟨v, hv, hr⟩ := h.2 _ d hd
  exact ⟨v, by rw [List.getElem?_drop]; exact hv, hr⟩
theorem RepL.set {pc : Nat → Nat → Option Value} {N : Nms} {vs : List Value} {ds : List D} (h : RepL pc N vs ds) (n : Nat) {v : Value} {d : D} (hv : Rep pc N v d) : RepL pc N (vs.set n v) (ds.set n d) := by
  refine ⟨by simp [h.1], fun j e he => ?_⟩
  rw [List.getElem?_set] at he ⊢
  split at he
  · rename_i hj
    split at he
    · rename_i hlt
      injection he with he; subst he
      exact ⟨v, by rw [if_pos hj, if_pos (by rw [h.1]; exact hlt)], hv⟩
    · cases he
  · rename_i hj
    obtain ⟨u, hu, hr⟩ := h.2 j e he
    exact ⟨u, by rw [if_neg hj]; exact hu, hr⟩
theorem RepL.one {pc : Nat → Nat → Option Value} {N : Nms} {vs : List Value} {ds : List D} (h : RepL pc N vs ds) : ∀ u ∈ vs, u.oneCell' = true := by
  intro u hu
  obtain ⟨j, hj, rfl⟩ := List.getElem_of_mem hu
  have hlt : j < ds.length := by rw [← h.1]; exact hj
  obtain ⟨v, hv, hr⟩ := h.2 j _ (List.getElem?_eq_getElem hlt)
  rw [List.getElem?_eq_getElem hj] at hv
  injection hv with hv; subst hv
  exact hr.oneCell

/-- One value says what is no tuple. -/
def RepB (pc : Nat → Nat → Option Value) (N : Nms) (v : Value) : A → Prop
  | .one d => Rep pc N v d
  | .agg cs => ∃ us, v = .agg us ∧ RepL pc N us.toList cs
  | .tup _ => False
def RepA (pc : Nat → Nat → Option Value) (N : Nms) (v : Value) : A → Prop
  | .tup vs => ∃ us, v = .tuple us ∧ us.size = vs.length ∧ ∀ (j : Nat) a, vs[j]? = some a → ∃ u, us[j]? = some u ∧ RepB pc N u a
  | a => RepB pc N v a
theorem RepB.mono {pc pc' : Nat → Nat → Option Value} {N N' : Nms} (hpc : ∀ g i u, pc g i = some u → pc' g i = some u) (hN : N.Le N') {v : Value} {a : A} (h : RepB pc N v a) : RepB pc' N' v a := by
  cases a with
  | one d => exact Rep.mono hpc h hN
  | agg cs => obtain ⟨us, e, h⟩ := h; exact ⟨us, e, h.mono hpc hN⟩
  | tup vs => exact h
theorem RepA.mono {pc pc' : Nat → Nat → Option Value} {N N' : Nms} (hpc : ∀ g i u, pc g i = some u → pc' g i = some u) (hN : N.Le N') {v : Value} {a : A} (h : RepA pc N v a) : RepA pc' N' v a := by
  cases a with
  | one d => exact RepB.mono (a := .one d) hpc hN h
  | agg cs => exact RepB.mono (a := .agg cs) hpc hN h
  | tup vs => obtain ⟨us, e, hl, h⟩ := h; exact ⟨us, e, hl, fun j a ha => let ⟨u, hu, hr⟩ := h j a ha; ⟨u, hu, hr.mono hpc hN⟩⟩
theorem RepA.cells {pc : Nat → Nat → Option Value} {N : Nms} {v : Value} {a : A} (h : RepB pc N v a) : RepL pc N v.cells.toList a.cells := by
  cases a with
  | one d =>
    have h1 := Rep.oneCell h
    have : v.cells = #[v] := by cases v <;> first | rfl | simp [Value.oneCell'] at h1
    rw [this]
    exact RepL.cons h (RepL.nil _ _)
  | agg cs => obtain ⟨us, rfl, h⟩ := h; exact h
  | tup vs => exact h.elim

/-- Variables in memory; maps; iterators. -/
inductive Box where
  | cells (T : TypeId) (cs : List D)
  | map (es : List (Value × A × Nat)) (clock : Nat)
  | iter (s : ByteArray) (pos : Nat)
  | row (T : TypeId) (sz cap : Nat) (cs : List D)

def BoxRep (pc : Nat → Nat → Option Value) (N : Nms) (o : Obj) : Box → Prop
  | .cells T cs => ∃ (us : Array Value) (fz : Nat × Nat), o = .cells us T fz ∧ (fz = (0, 0) ∨ us.size ≤ fz.1) ∧ RepL pc N (us.toList.take cs.length) cs
  | .map es ck => ∃ xs : Array MapEntry, o = .map xs ck ∧ xs.size = es.length ∧ ∀ (j : Nat) e, es[j]? = some e → ∃ x, xs[j]? = some x ∧ x.key = e.1 ∧ x.born = e.2.2 ∧ RepB pc N x.val e.2.1
  | .iter s p => o = .stringIter s p
  | .row T sz cap cs => ∃ us : Array Value, o = .cells us T (0, 0) ∧ us.size = cap * sz ∧ RepL pc N (us.toList.take cs.length) cs
theorem BoxRep.mono {pc pc' : Nat → Nat → Option Value} {N N' : Nms} (hpc : ∀ g i u, pc g i = some u → pc' g i = some u) (hN : N.Le N') {o : Obj} {b : Box} (h : BoxRep pc N o b) : BoxRep pc' N' o b := by
  cases b with
  | cells T cs => obtain ⟨us, fz, e, hf, h⟩ := h; exact ⟨us, fz, e, hf, h.mono hpc hN⟩
  | map es ck => obtain ⟨xs, e, hl, h⟩ := h; exact ⟨xs, e, hl, fun j e he => let ⟨x, hx, h1, h2, h3⟩ := h j e he; ⟨x, hx, h1, h2, h3.mono hpc hN⟩⟩
  | iter s p => exact h
  | row T sz cap cs => obtain ⟨us, e, hf, h⟩ := h; exact ⟨us, e, hf, h.mono hpc hN⟩

inductive Ow where
  | bx (n : Nat) | tk (n : Nat)
  deriving DecidableEq

/-- The state of a piece of code: what the slots say, and where that is so; the boxes; the living tokens; the next name. -/
structure St where
  env : Nat → Option A
  va : Nat → Prop
  bx : Nat → Option Box
  tk : Nat → Option (TypeId × Nat)
  nx : Nat

/-- A block that is a row; nothing within it is frozen. -/
def RowAt (o : Option Obj) (cur : Array Value) (e : TypeId) : Prop := ∃ fz, o = some (.cells cur e fz) ∧ (fz = (0, 0) ∨ cur.size ≤ fz.1)
def TokOK (M : Gh) (own : Nat → Option Ow) (w : World) (t : Nat) (q : TypeId × Nat) (v : Value) : Prop :=
  (∃ A n, v = .slice A n n) ∨
  ∃ g len cap cur, v = .slice (some ⟨g, 0, none⟩) len cap ∧ own g = some (.tk t) ∧ RowAt w.heap[g]? cur q.1 ∧ len ≤ cap ∧ cap ≤ maxLen ∧
    cur.size = cap * q.2 ∧ M.im g = none ∧ ∀ i, len * q.2 ≤ i → M.pc g i = none

structure SimO (M : Gh) (N : Nms) (S : St) (fr : Nat → Prop) (own : Nat → Option Ow) (w : World) : Prop where
  base : w.os = M.w0.os ∧ w.tape = M.w0.tape ∧ w.output = M.w0.output
  pc : ∀ g i u, M.pc g i = some u → w.cell? ⟨g, i, none⟩ = some u
  im : ∀ g o, M.im g = some o → w.heap[g]? = some o
  fro : ∀ g, M.fro g → g < w.heap.size ∧ own g = none
  lt : ∀ g o, own g = some o → g < w.heap.size
  box : ∀ n b, S.bx n = some b → ∃ g o, N.bx n = some g ∧ own g = some (.bx n) ∧ w.heap[g]? = some o ∧ BoxRep M.pc N o b ∧ M.im g = none ∧ ∀ i, M.pc g i = none
  tok : ∀ t q, S.tk t = some q → ∃ v, N.tk t = some v ∧ TokOK M own w t q v
  fresh : ∀ n, fr n → N.bx n = none ∧ N.tk n = none
  glob : ∀ q ∈ M.gl, M.pc q.1 q.2.1 = some q.2.2
  nb : M.nb.Le N
  big : M.w0.heap.size ≤ w.heap.size
def Sim (M : Gh) (N : Nms) (S : St) (w : World) : Prop := ∃ own, SimO M N S (fun n => S.nx ≤ n) own w

/-- What the slots say, where that is so; elsewhere they say nothing. -/
def EnvRep (pc : Nat → Nat → Option Value) (N : Nms) (env : Nat → Option A) (va : Nat → Prop) (tmps : Array Value) : Prop :=
  ∀ t a, env t = some a → (va t → ∃ v, tmps[t]? = some v ∧ RepA pc N v a) ∧ (¬ va t → tmps[t]? = some undef)
theorem EnvRep.mono {pc pc' : Nat → Nat → Option Value} {N N' : Nms} (hpc : ∀ g i u, pc g i = some u → pc' g i = some u) (hN : N.Le N') {env : Nat → Option A} {va : Nat → Prop} {tmps : Array Value} (h : EnvRep pc N env va tmps) : EnvRep pc' N' env va tmps :=
  fun t a ha => ⟨fun hv => let ⟨v, hv, hr⟩ := (h t a ha).1 hv; ⟨v, hv, hr.mono hpc hN⟩, (h t a ha).2⟩

def upd {α : Type} (f : Nat → α) (k : Nat) (v : α) : Nat → α := fun n => if n = k then v else f n
theorem upd_apply {α : Type} (f : Nat → α) (k : Nat) (v : α) (n : Nat) : upd f k v n = if n = k then v else f n := rfl
theorem upd_same {α : Type} (f : Nat → α) (k : Nat) (v : α) : upd f k v k = v := by simp [upd]
theorem upd_ne {α : Type} (f : Nat → α) (k : Nat) (v : α) {n : Nat} (h : n ≠ k) : upd f k v n = f n := by simp [upd, h]

end Go.Proofs.YtbhingdlclfipaaDoor.Ab
