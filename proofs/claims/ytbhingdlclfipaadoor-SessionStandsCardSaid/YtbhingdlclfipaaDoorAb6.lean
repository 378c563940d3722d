/- An abstract calculus over pure data, part 6: the code's own operations do what part 3 says (slices written out, numbers, texts, appends). -/
import Derived.Test.YtbhingdlclfipaaDoorAb5
namespace Go.Proofs.YtbhingdlclfipaaDoor.Ab
open Go Go.RowKit
set_option linter.unusedVariables false
set_option linter.unusedSimpArgs false

section
variable {P : Program} {o : Oper} {ev : Operand → Value} {M : Gh} {N : Nms} {S : St} {fr : Nat → Prop} {own : Nat → Option Ow} {w : World} {nm : Nat}

/-! ### rows that are made -/
theorem setL_eq : ∀ (ds cs : List D) (off : Nat), off + ds.length ≤ cs.length → setL cs off ds = cs.take off ++ ds ++ cs.drop (off + ds.length)
  | [], cs, off, _ => by simp [setL]
  | d :: ds, cs, off, h => by
    have hlt : off < cs.length := by simp at h; omega
    rw [setL, setL_eq ds _ _ (by simp at h ⊢; omega), List.take_succ_eq_append_getElem (by simpa using hlt), List.take_set_of_le (Nat.le_refl _), List.getElem_set_self, List.drop_set_of_lt (by omega)]
    simp [Nat.add_assoc, Nat.add_comm 1]
def rowsAt (sz : Nat) : Nat → List (List D) → List (Nat × Nat × List D)
  | _, [] => []
  | j, x :: r => (j * sz, sz, x) :: rowsAt sz (j + 1) r
theorem len_flatten {sz : Nat} {l : List (List D)} (h : ∀ x ∈ l, x.length = sz) : l.flatten.length = l.length * sz := by
  induction l with
  | nil => simp
  | cons x r ih => simp [ih fun y hy => h y (by simp [hy]), h x (by simp), Nat.add_mul, Nat.add_comm]
theorem fillL_rows {sz : Nat} : ∀ (l : List (List D)) (j : Nat) (zs : List D), (∀ x ∈ l, x.length = sz) → (j + l.length) * sz ≤ zs.length → fillL zs (rowsAt sz j l) = zs.take (j * sz) ++ l.flatten ++ zs.drop ((j + l.length) * sz)
  | [], j, zs, _, _ => by simp [rowsAt, fillL]
  | x :: r, j, zs, h, hl => by
    have hx := h x (by simp)
    have e1 : (j + 1) * sz = j * sz + sz := Nat.succ_mul _ _
    have e2 : (j + (x :: r).length) * sz = (j + 1 + r.length) * sz := by simp [Nat.add_assoc, Nat.add_comm 1]
    have e3 : (j + 1) * sz ≤ (j + 1 + r.length) * sz := Nat.mul_le_mul_right _ (by omega)
    rw [e2] at hl ⊢
    rw [rowsAt, fillL, fillL_rows r (j + 1) _ (fun y hy => h y (by simp [hy])) (by rw [setL_length]; exact hl), setL_eq _ _ _ (by rw [hx]; omega)]
    have ht : ((zs.take (j * sz) ++ x ++ zs.drop (j * sz + x.length))).take ((j + 1) * sz) = zs.take (j * sz) ++ x := by
      rw [e1, List.take_append_of_le_length (by simp [hx]; omega), List.take_of_length_le (by simp [hx]; omega)]
    have hd : ((zs.take (j * sz) ++ x ++ zs.drop (j * sz + x.length))).drop ((j + 1 + r.length) * sz) = zs.drop ((j + 1 + r.length) * sz) := by
      have hlen : (zs.take (j * sz) ++ x).length = (j + 1) * sz := by simp [hx]; omega
      rw [List.drop_append, List.drop_eq_nil_of_le (by rw [hlen]; exact e3), List.nil_append, List.drop_drop, hlen, hx]
      congr 1
      omega
    rw [ht, hd]
    simp
theorem partsOK_rows {sz : Nat} : ∀ (l : List (List D)) (j n : Nat), (∀ x ∈ l, x.length = sz) → (j + l.length) * sz ≤ n → partsOK n (rowsAt sz j l)
  | [], _, _, _, _ => trivial
  | x :: r, j, n, h, hl => by
    have e1 : (j + 1) * sz = j * sz + sz := Nat.succ_mul _ _
    have e2 : (j + (x :: r).length) * sz = (j + 1 + r.length) * sz := by simp [Nat.add_assoc, Nat.add_comm 1]
    have e3 : (j + 1) * sz ≤ (j + 1 + r.length) * sz := Nat.mul_le_mul_right _ (by omega)
    exact ⟨⟨h x (by simp), by omega⟩, partsOK_rows r (j + 1) n (fun y hy => h y (by simp [hy])) (by omega)⟩
theorem flatten_get {sz : Nat} : ∀ {l : List (List D)}, (∀ x ∈ l, x.length = sz) → ∀ (i k : Nat), k < sz → l.flatten[i * sz + k]? = l[i]?.bind (·[k]?)
  | [], _, i, k, _ => by simp
  | x :: r, h, i, k, hk => by
    have hx := h x (by simp)
    cases i with
    | zero => simp [List.getElem?_append_left (show k < x.length by omega)]
    | succ i =>
      have e : (i + 1) * sz + k = x.length + (i * sz + k) := by rw [hx, Nat.succ_mul]; omega
      simp only [List.flatten_cons]
      rw [e, List.getElem?_append_right (Nat.le_add_right _ _), Nat.add_sub_cancel_left, flatten_get (fun y hy => h y (by simp [hy])) i k hk]
      simp
/-- A new row whose elements are told. -/
theorem rep_row {us : Array Value} {g : Nat} {t : Tk} {sz : Nat} {xs : List (List D)} {cap : Nat} (hrep : RepL M.pc Nms.nil us.toList xs.flatten) (hl : ∀ x ∈ xs, x.length = sz) (hc : xs.length ≤ cap) (hm : cap ≤ maxLen)
    {pc : Nat → Nat → Option Value} (hpc : ∀ i, i < xs.length * sz → pc g i = us[i]?) (hmono : ∀ b i u, M.pc b i = some u → pc b i = some u) {N' : Nms} (ht : TkOK N' (some ⟨g, 0, none⟩) xs.length cap t) :
    Rep pc N' (.slice (some ⟨g, 0, none⟩) xs.length cap) (.sl t sz xs) := by
  have hlen : us.size = xs.length * sz := by have := hrep.1; rw [len_flatten hl] at this; simpa using this
  refine Rep.sl N' _ cap t sz xs g 0 (fun i k => us.getD (i * sz + k) undef) (.inr rfl) hl hc hm (fun i hi k hk => ?_) (fun i k d hd => ?_) ht
  · have hlt : i * sz + k < xs.length * sz := by
      have : (i + 1) * sz ≤ xs.length * sz := Nat.mul_le_mul_right _ hi
      rw [Nat.succ_mul] at this; omega
    rw [Nat.zero_add, hpc _ hlt]
    simp [Array.getD, hlen, hlt]
  · have hk : k < sz := by
      obtain ⟨x, hx, hd'⟩ := Option.bind_eq_some_iff.1 hd
      have := hl x (List.mem_of_getElem? hx)
      have := (List.getElem?_eq_some_iff.1 hd').1
      omega
    rw [← flatten_get hl i k hk] at hd
    obtain ⟨v, hv, hr⟩ := hrep.2 _ d hd
    have : us.getD (i * sz + k) undef = v := by
      rw [Array.getElem?_toList] at hv
      simp [Array.getD_eq_getD_getElem?, hv]
    rw [this]
    exact hr.mono hmono (Nms.Le.refl _)
theorem RepL.clo {pc : Nat → Nat → Option Value} {N : Nms} : ∀ {vs : List Value} {ds ds' : List D}, RepL pc N vs ds → cloL ds = some ds' → RepL pc Nms.nil vs ds'
  | vs, [], ds', h, e => by
    have := h.nil_inv; subst this
    simp only [cloL, Option.some.injEq] at e; subst e
    exact RepL.nil _ _
  | vs, d :: ds, ds', h, e => by
    obtain ⟨v, vs', rfl, h1, h2⟩ := h.cons_inv
    simp only [cloL] at e
    obtain ⟨d', hd, e⟩ := Option.bind_eq_some_iff.1 e
    obtain ⟨r, hr, rfl⟩ := Option.map_eq_some_iff.1 e
    exact RepL.cons (h1.clo hd) (h2.clo hr)
/-- The values given for a row's elements. -/
inductive ElemsRep (pc : Nat → Nat → Option Value) : List Value → List (List D) → Prop
  | nil : ElemsRep pc [] []
  | cons (v : Value) (ds : List D) (r : List Value) (s : List (List D)) (hv : RepL pc Nms.nil v.cells.toList ds) (h : ElemsRep pc r s) : ElemsRep pc (v :: r) (ds :: s)
theorem ElemsRep.parts {pc : Nat → Nat → Option Value} {sz : Nat} {vs : List Value} {l : List (List D)} (h : ElemsRep pc vs l) : ∀ (j : Nat), PartsRep pc Nms.nil (fun i => some (i * sz, sz)) ((vs.zipIdx j).map fun (v, i) => (i, v)) (rowsAt sz j l) := by
  induction h with
  | nil => intro j; exact .nil
  | cons v ds r s hv h ih => intro j; exact .cons j (j * sz) sz v ds _ _ rfl hv (ih (j + 1))
theorem ElemsRep.length {pc : Nat → Nat → Option Value} {vs : List Value} {l : List (List D)} (h : ElemsRep pc vs l) : vs.length = l.length := by
  induction h with
  | nil => rfl
  | cons v ds r s hv h ih => simp [ih]
theorem d_bsl {T e : TypeId} {qs : Array (Nat × Operand)} {n sz : Nat} {i : TypeInfo} {z : Value} {l : List (List D)} {vs : List Value} (h : SimO M N S fr own w) (ho : o.op = .buildSlice T n qs) (hu : P.underlying T = some (.slice e))
    (hi : P.info? e = some i) (hsz : i.size = sz) (hz : i.zero = some z) (hzs : z.cells.size = sz) (hz1 : z.cells.all (·.oneCell') = true) (h0 : 0 < sz) (hn : n = l.length) (h24 : n * sz ≤ 16777216)
    (hq : (qs.map fun (j, x) => (j, ev x)).toList = vs.zipIdx.map fun (v, j) => (j, v)) (hvs : ElemsRep M.pc vs l) (hl : ∀ x ∈ l, x.length = sz) (hne0 : l ≠ []) :
    Done P o ev M N S fr w nm (some (.one (.sl .full sz l))) .nil := by
  subst hn
  have hz0 : RepL M.pc Nms.nil ((Array.range (l.length * sz)).map (z.cells[· % z.cells.size]!)).toList (((Array.range (l.length * sz)).map (z.cells[· % z.cells.size]!)).toList.map D.v) := by
    refine ⟨by simp, fun j d hd => ?_⟩
    rw [List.getElem?_map] at hd
    obtain ⟨u, hu', rfl⟩ := Option.map_eq_some_iff.1 hd
    refine ⟨u, hu', .v _ _ ?_⟩
    simp only [Array.toList_map, List.getElem?_map, Array.toList_range] at hu'
    obtain ⟨q, hq', rfl⟩ := Option.map_eq_some_iff.1 hu'
    have hlt : q % z.cells.size < z.cells.size := Nat.mod_lt _ (by omega)
    have hall := Array.all_eq_true.1 hz1 (q % z.cells.size) hlt
    rw [getElem!_pos z.cells _ hlt]
    exact hall
  have hzl : (((Array.range (l.length * sz)).map (z.cells[· % z.cells.size]!)).toList.map D.v).length = l.length * sz := by simp
  have hp := hvs.parts (sz := sz) 0
  obtain ⟨us, e1, e2, e3⟩ := fill_rep hp _ _ hz0 (partsOK_rows l 0 _ hl (by rw [hzl]; simp))
  rw [fillL_rows l 0 _ hl (by rw [hzl]; simp)] at e3
  have e4 : RepL M.pc Nms.nil us.toList l.flatten := by
    have hdr := List.drop_eq_nil_of_le (Nat.le_of_eq hzl)
    rw [Nat.zero_add, hdr] at e3
    simpa using e3
  have hlen : us.size = l.length * sz := by have := e4.1; rw [len_flatten hl] at this; simpa using this
  have one := One.alloc w (.cells us e)
  have hle := Gh.le_row (M := M) (g := w.heap.size) (k := us.size) (us := us) h.pc_new h.not_fro
  have hlm : l.length ≤ maxLen := by
    have : l.length ≤ l.length * sz := Nat.le_mul_of_pos_right _ h0
    simp only [maxLen]; omega
  refine ⟨some (.slice (some ⟨w.heap.size, 0, none⟩) l.length l.length), _, M.row w.heap.size us.size us, N, own, ?_, hle, Nms.Le.refl _, (h.newRow one us.size).later fun _ hn => hn.1, ?_⟩
  · have hno : ¬ (l.length * sz > 16777216) := by omega
    have hfill : Instr.fill (fun i => some (i * sz, sz)) ((Array.range (l.length * sz)).map (z.cells[· % z.cells.size]!)) (qs.map fun (j, x) => (j, ev x)).toList = some us := by
      rw [hq]; exact e1
    have hlp : 0 < l.length := List.length_pos_iff.2 hne0
    have hz' : 0 < l.length * sz := Nat.mul_pos hlp h0
    have hne : ¬ (l.length * sz = 0) := by omega
    simp only [execOp, ho, Instr.buildSlice, Sem.run_bind, run_underlying hu, Result.andThen_ok, sizeOf, typeInfo, run_program, hi, Sem.run_pure, hsz, Sem.run_ite, if_neg hno, if_neg hne, zeroValue, hz, hfill, newRow, nextOf]
    simp
  · exact rep_row (M := M) e4 hl (Nat.le_refl _) hlm (fun i hi => by show (if _ = _ then (if i < us.size then _ else _) else _) = _; rw [if_pos rfl, if_pos (by omega)]) hle.pc rfl

/-! ### numbers, texts, truths -/
theorem int_beq (a b : Int) : (a == b) = decide (a = b) := by by_cases q : a = b <;> simp [q]
theorem toList_beq (a b : ByteArray) : (a.toList == b.toList) = decide (a = b) := by
  rw [ByteArray.toList_eq, ByteArray.toList_eq]
  obtain ⟨⟨x⟩⟩ := a
  obtain ⟨⟨y⟩⟩ := b
  rw [Bool.eq_iff_iff]
  simp
theorem d_bin {T U : TypeId} {op : BinOp} {x y : Operand} {u v r : Value} {p : Prop} (h : SimO M N S fr own w) (ho : o.op = .binOp op T x y U) (hx : ev x = u) (hy : ev y = v) (hb : binV op u v = some (p, r)) (hp : p) : Done P o ev M N S fr w nm (some (.one (.v r))) .nil := by
  have hr : r.oneCell' = true := by
    unfold binV at hb
    split at hb <;> simp only [Option.some.injEq, Prod.mk.injEq, reduceCtorEq] at hb <;> (obtain ⟨_, rfl⟩ := hb; rfl)
  refine done_pure h (v := r) ?_ (Rep.v _ _ hr)
  unfold binV at hb
  split at hb <;> simp only [Option.some.injEq, Prod.mk.injEq, reduceCtorEq] at hb <;> obtain ⟨rfl, rfl⟩ := hb
  case h_18 =>
    simp only [execOp, ho, hx, hy, eqGuard_at_string]
    simp [binOp, Op.stringOp]
    omega
  all_goals first
    | (subst hp; simp [execOp, ho, hx, hy, eqGuard_at_int, binOp, Op.intArith, Op.intCmp, Op.intBits, Go.bits]; done)
    | (subst hp; simp [execOp, ho, hx, hy, eqGuard_at_int, binOp, Op.intCmp, bne, int_beq]; done)
    | (obtain ⟨rfl, hy0⟩ := hp; simp [execOp, ho, hx, hy, eqGuard_at_int, binOp, Op.intDiv, hy0]; done)
    | (simp [execOp, ho, hx, hy, eqGuard_at_int, binOp_shl, binOp_shr, shift_shl_any _ _ _ _ hp, shift_shr_any _ _ _ _ hp]; done)
    | (simp [execOp, ho, hx, hy, eqGuard_at_string, binOp, Op.stringOp, beq_toListBytes, toList_beq]; done)
theorem d_eqb {T U : TypeId} {neg : Bool} {x y : Operand} {a b : Bool} (h : SimO M N S fr own w) (ho : o.op = .binOp (if neg then .neq else .eql) T x y U) (hT : P.underlying T = some .bool) (hx : ev x = .bool a) (hy : ev y = .bool b) :
    Done P o ev M N S fr w nm (some (.one (.v (.bool (if neg then !(a == b) else a == b))))) .nil := by
  refine done_pure h (v := .bool (if neg then !(a == b) else a == b)) ?_ (Rep.v _ _ rfl)
  cases neg
  · simp [execOp, ho, hx, hy, eqGuard_at_bool, run_eql_bool _ _ _ _ hT]
  · simp [execOp, ho, hx, hy, eqGuard_at_bool, run_neq_bool _ _ _ _ hT]
end
end Go.Proofs.YtbhingdlclfipaaDoor.Ab
