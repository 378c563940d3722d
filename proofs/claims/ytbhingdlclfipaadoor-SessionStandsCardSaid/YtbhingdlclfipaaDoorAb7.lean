/- An abstract calculus over pure data, part 7: the code's own operations do what part 3 says (structs that are compared, parts, conversions, texts). -/
import Derived.Test.YtbhingdlclfipaaDoorAb6
namespace Go.Proofs.YtbhingdlclfipaaDoor.Ab
open Go Go.RowKit
set_option linter.unusedVariables false
set_option linter.unusedSimpArgs false

section
variable {P : Program} {o : Oper} {ev : Operand → Value} {M : Gh} {N : Nms} {S : St} {fr : Nat → Prop} {own : Nat → Option Ow} {w : World} {nm : Nat}

theorem run_part {t : TypeId} {d : TypeDesc} {cs : Array Value} {off n : Nat} {ag : Bool} (hd : P.underlying t = some d) (hs : (P.info? t).map (·.size) = some n) (hag : isAggB P t = ag) (h1 : ag = false → n = 1) (hl : off + n ≤ cs.size) :
    (part t cs off).run P w = .ok (loadedV ((cs.toList.drop off).take n) ag) w := by
  obtain ⟨i, hi, hi2⟩ := Option.map_eq_some_iff.1 hs
  unfold part
  cases ag with
  | true =>
    simp only [Sem.run_bind, run_isAgg hd, hag, Result.andThen_ok, sizeOf, typeInfo, run_program, hi, if_true, Sem.run_pure, hi2, loadedV]
    congr 2
    apply Array.ext'
    simp [Array.toList_extract, List.extract_eq_take_drop]
  | false =>
    have hn := h1 rfl
    subst hn
    have hlt : off < cs.size := by omega
    simp only [Sem.run_bind, run_isAgg hd, hag, Result.andThen_ok, Bool.false_eq_true, if_false, Array.getElem?_eq_getElem hlt, Sem.run_pure, loadedV]
    congr 1
    simp [List.getD, List.getElem?_take, hlt]

/-! ### structs that are compared -/
def flatB (P : Program) : List Field → List Nat → Nat → Bool
  | [], [], _ => true
  | f :: fs, k :: ks, j => (f.name != "_") && (f.offset == j) && (match P.underlying f.type, k with | some .bool, 0 => true | some (.int _), 1 => true | some .string, 2 => true | _, _ => false) && flatB P fs ks (j + 1)
  | _, _, _ => false
theorem run_part_one {t : TypeId} {d : TypeDesc} {cs : Array Value} {off : Nat} {u : Value} (hd : P.underlying t = some d) (hag : isAggB P t = false) (hu : cs[off]? = some u) : (part t cs off).run P w = .ok u w := by
  simp [part, run_isAgg hd, hag, hu]
theorem run_eqFields {d : Nat} {xs ys : Array Value} : ∀ (fs : List Field) (ks : List Nat) (j : Nat) (cs ds : List D) (q : Bool), flatB P fs ks j = true → eqC ks cs ds = some q → RepL M.pc N (xs.toList.drop j) cs → RepL M.pc N (ys.toList.drop j) ds →
    (Op.eqFields (d + 1) xs ys fs).run P w = .ok q w
  | [], [], j, cs, ds, q, _, he, _, _ => by
    cases cs <;> cases ds <;> simp [eqC] at he
    subst he
    simp [Op.eqFields]
  | [], k :: ks, _, _, _, _, hf, _, _, _ => by simp [flatB] at hf
  | f :: fs, [], _, _, _, _, hf, _, _, _ => by simp [flatB] at hf
  | f :: fs, k :: ks, j, cs, ds, q, hf, he, hx, hy => by
    simp only [flatB, Bool.and_eq_true, bne_iff_ne, ne_eq, beq_iff_eq] at hf
    obtain ⟨⟨⟨hn, ho⟩, hk⟩, hf⟩ := hf
    have at0 : ∀ {zs : Array Value} {e : D} {es : List D}, RepL M.pc N (zs.toList.drop j) (e :: es) → ∃ u, zs[j]? = some u ∧ Rep M.pc N u e ∧ RepL M.pc N (zs.toList.drop (j + 1)) es := by
      intro zs e es h
      obtain ⟨u, us, e1, h1, h2⟩ := h.cons_inv
      refine ⟨u, ?_, h1, ?_⟩
      · have : (zs.toList.drop j)[0]? = some u := by rw [e1]; rfl
        simpa using this
      · have : zs.toList.drop (j + 1) = us := by rw [← List.drop_drop, e1]; rfl
        rw [this]; exact h2
    subst ho
    unfold eqC at he
    split at he
    case h_1 heq => cases heq
    case h_2 ks' a r' b s' heq =>
      injection heq with h1 h2; subst h1; subst h2
      obtain ⟨r, hr, rfl⟩ := Option.map_eq_some_iff.1 he
      obtain ⟨u, hu, hu', hx'⟩ := at0 hx
      obtain ⟨v, hv, hv', hy'⟩ := at0 hy
      have := hu'.v_inv; subst this
      have := hv'.v_inv; subst this
      have hd : P.underlying f.type = some .string := by split at hk <;> simp_all
      have hag : isAggB P f.type = false := by simp [isAggB, hd]
      have ih := run_eqFields (d := d) fs ks (f.offset + 1) _ _ r hf hr hx' hy'
      simp only [Op.eqFields, if_pos hn, Sem.run_bind, run_part_one hd hag hu, run_part_one hd hag hv, Result.andThen_ok, run_equalIn_string w d f.type _ _ hd, toList_beq]
      by_cases hab : a = b <;> simp [hab, ih]
    case h_3 ks' kd a r' kd' b s' heq =>
      injection heq with h1 h2; subst h1; subst h2
      split at he
      · rename_i hkk
        subst hkk
        obtain ⟨r, hr, rfl⟩ := Option.map_eq_some_iff.1 he
        obtain ⟨u, hu, hu', hx'⟩ := at0 hx
        obtain ⟨v, hv, hv', hy'⟩ := at0 hy
        have := hu'.v_inv; subst this
        have := hv'.v_inv; subst this
        have hd : ∃ k, P.underlying f.type = some (.int k) := by split at hk <;> simp_all
        obtain ⟨k', hd⟩ := hd
        have hag : isAggB P f.type = false := by simp [isAggB, hd]
        have ih := run_eqFields (d := d) fs ks (f.offset + 1) _ _ r hf hr hx' hy'
        simp only [Op.eqFields, if_pos hn, Sem.run_bind, run_part_one hd hag hu, run_part_one hd hag hv, Result.andThen_ok, run_equalIn_int w d f.type _ k' _ _ hd, int_beq]
        by_cases hab : a = b <;> simp [hab, ih]
      · cases he
    case h_4 ks' a r' b s' heq =>
      injection heq with h1 h2; subst h1; subst h2
      obtain ⟨r, hr, rfl⟩ := Option.map_eq_some_iff.1 he
      obtain ⟨u, hu, hu', hx'⟩ := at0 hx
      obtain ⟨v, hv, hv', hy'⟩ := at0 hy
      have := hu'.v_inv; subst this
      have := hv'.v_inv; subst this
      have hd : P.underlying f.type = some .bool := by split at hk <;> simp_all
      have hag : isAggB P f.type = false := by simp [isAggB, hd]
      have ih := run_eqFields (d := d) fs ks (f.offset + 1) _ _ r hf hr hx' hy'
      simp only [Op.eqFields, if_pos hn, Sem.run_bind, run_part_one hd hag hu, run_part_one hd hag hv, Result.andThen_ok, run_equalIn_bool' w d f.type _ _ hd]
      cases a <;> cases b <;> simp [ih]
    case h_5 => cases he
theorem d_eqs {T U : TypeId} {neg : Bool} {ks : List Nat} {x y : Operand} {cs ds : List D} {q : Bool} {fs : Array Field} (h : SimO M N S fr own w) (ho : o.op = .binOp (if neg then .neq else .eql) T x y U)
    (hu : P.underlying T = some (.struct fs)) (hs : P.stoodInHeld T = false) (hg : P.eqGuardType P.depth T = false) (hf : flatB P fs.toList ks 0 = true)
    (hx : RepB M.pc N (ev x) (.agg cs)) (hy : RepB M.pc N (ev y) (.agg ds)) (he : eqC ks cs ds = some q) : Done P o ev M N S fr w nm (some (.one (.v (.bool (if neg then !q else q))))) .nil := by
  obtain ⟨xs, ex, hx⟩ := hx
  obtain ⟨ys, ey, hy⟩ := hy
  have hfo : P.fieldsOf T = fs := by simp [Program.fieldsOf, hu]
  have hu' : P.underlying T = some (.struct (P.fieldsOf T)) := by rw [hfo]; exact hu
  have hr := run_equalIn_struct w 9999 T xs ys hu' hs
  rw [hfo, run_eqFields (d := 9998) fs.toList ks 0 cs ds q hf he (by simpa using hx) (by simpa using hy)] at hr
  refine done_pure h (v := .bool (if neg then !q else q)) ?_ (Rep.v _ _ rfl)
  cases neg
  · simp only [execOp, ho, ex, ey, Bool.false_eq_true, if_false, Sem.run_bind, run_eqGuard_agg w .eql T x y xs ys hg, Result.andThen_ok, run_eql_struct w T xs ys, hr, Sem.run_pure]
  · simp only [execOp, ho, ex, ey, if_true, Sem.run_bind, run_eqGuard_agg w .neq T x y xs ys hg, Result.andThen_ok, run_neq_struct w T xs ys, hr, Sem.run_pure]

/-! ### one operand -/
theorem d_un {T : TypeId} {op : UnOp} {x : Operand} {u r : Value} (h : SimO M N S fr own w) (ho : o.op = .unOp op T x) (hx : ev x = u) (hb : unV op u = some r) : Done P o ev M N S fr w nm (some (.one (.v r))) .nil := by
  unfold unV at hb
  split at hb <;> (try cases hb)
  · exact done_pure h (v := _) (by simp [execOp, ho, hx, Op.unary]) (Rep.v _ _ rfl)
  · exact done_pure h (v := _) (by simp [execOp, ho, hx, Op.unary, Op.intArith]) (Rep.v _ _ rfl)
  · exact done_pure h (v := _) (by simp [execOp, ho, hx, Op.unary, Op.intBits, Go.bits]) (Rep.v _ _ rfl)
theorem d_cvi {s t : TypeId} {k k' : IntKind} {x : Operand} {n : Int} (h : SimO M N S fr own w) (ho : o.op = .convert s t x) (hs : (P.underlying s).isSome = true) (ht : P.underlying t = some (.int k)) (hx : ev x = .int k' n) :
    Done P o ev M N S fr w nm (some (.one (.v (.int k (k.wrap n))))) .nil := by
  obtain ⟨d, hd⟩ := Option.isSome_iff_exists.1 hs
  refine done_pure h (v := .int k (k.wrap n)) ?_ (Rep.v _ _ rfl)
  simp [execOp, ho, hx, convert, run_underlying hd, run_underlying ht, Conv.intToInt]
theorem d_cv0 {s t : TypeId} {x : Operand} {u : ByteArray} (h : SimO M N S fr own w) (ho : o.op = .convert s t x) (hs : P.underlying s = some .string) (ht : P.underlying t = some .string) (hx : ev x = .string u) :
    Done P o ev M N S fr w nm (some (.one (.v (.string u)))) .nil := by
  refine done_pure h (v := .string u) ?_ (Rep.v _ _ rfl)
  simp [execOp, ho, hx, convert, run_underlying hs, run_underlying ht]
theorem d_cvr {s t : TypeId} {k : IntKind} {x : Operand} {n : Int} (h : SimO M N S fr own w) (ho : o.op = .convert s t x) (hs : (P.underlying s).isSome = true) (ht : P.underlying t = some .string) (hx : ev x = .int k n) :
    Done P o ev M N S fr w nm (some (.one (.v (.string (Utf8.encode n))))) .nil := by
  refine done_pure h (v := .string (Utf8.encode n)) ?_ (Rep.v _ _ rfl)
  simp [execOp, ho, hx, run_convert_int_string w s t k n hs ht]
theorem d_fld {T : TypeId} {x : Operand} {f off n : Nat} {ag : Bool} {fs : Array Field} {F : Field} {d : TypeDesc} {cs : List D} {r : A} (h : SimO M N S fr own w) (ho : o.op = .field T x f) (hu : P.underlying T = some (.struct fs)) (hf : fs[f]? = some F)
    (hoff : F.offset = off) (hd : P.underlying F.type = some d) (hs : (P.info? F.type).map (·.size) = some n) (hag : isAggB P F.type = ag) (hn : ag = false → n = 1) (hx : RepB M.pc N (ev x) (.agg cs)) (hr : cellsAt cs off n ag = some r) (hl : off + n ≤ cs.length) :
    Done P o ev M N S fr w nm (some r) .nil := by
  obtain ⟨us, ex, hx⟩ := hx
  subst hoff
  have hl' : F.offset + n ≤ us.size := by have := hx.1; simp at this; omega
  refine done_pure h (v := _) ?_ (repA_cellsAt hx hr hn hl)
  simp [execOp, ho, ex, Instr.field, run_underlying hu, hf, asAgg, run_part (w := w) hd hs hag hn hl']
theorem d_ext {x : Operand} {j : Nat} {vs : List A} {a : A} (h : SimO M N S fr own w) (ho : o.op = .extract x j) (hx : RepA M.pc N (ev x) (.tup vs)) (hj : vs[j]? = some a) : Done P o ev M N S fr w nm (some a) .nil := by
  obtain ⟨us, ex, hl, hx⟩ := hx
  obtain ⟨u, hu, hr⟩ := hx j a hj
  refine done_pure h (v := u) ?_ ?_
  · simp [execOp, ho, ex, Instr.extract, hu]
  · cases a with
    | tup vs => exact hr.elim
    | one d => exact hr
    | agg cs => exact hr
theorem byteAt_eq (s : ByteArray) (n : Nat) (h : n < s.size) : ((s[n]'h).toNat : Int) = byteAt s n := by
  have h' : n < s.data.size := h
  simp only [byteAt]
  have : s.data.getD n 0 = s[n]'h := by
    rw [Array.getD_eq_getD_getElem?, Array.getElem?_eq_getElem h']; rfl
  rw [this]
theorem d_idx {T : TypeId} {x y : Operand} {s : ByteArray} {k : IntKind} {i : Int} (h : SimO M N S fr own w) (ho : o.op = .index T x y) (hu : P.underlying T = some .string) (hx : ev x = .string s) (hy : ev y = .int k i) (h0 : 0 ≤ i) (h1 : i < s.size) :
    Done P o ev M N S fr w nm (some (.one (.v (.int .u8 (byteAt s i.toNat))))) .nil := by
  refine done_pure h (v := .int .u8 (byteAt s i.toNat)) ?_ (Rep.v _ _ rfl)
  simp [execOp, ho, hx, hy, run_index_string w T s k i hu, h0, h1, byteAt_eq]
def bndOK (v : Option Value) (d i : Int) : Prop := (v = none ∧ i = d) ∨ ∃ k, v = some (.int k i)
theorem run_bounds {isSlice : Bool} {len cap : Nat} {lo hi : Option Value} {l u : Int} (hl : bndOK lo 0 l) (hu : bndOK hi len u) (hlc : len ≤ cap) (h0 : 0 ≤ l) (h1 : l ≤ u) (h2 : u ≤ len) :
    (Instr.sliceBounds isSlice len cap lo hi none).run P w = .ok (l.toNat, u.toNat, cap) w := by
  have hu' : (u.toNat : Int) = u := Int.toNat_of_nonneg (by omega)
  have hb1 : ∀ k c, (Instr.sliceBound (.int k u) cap c).run P w = .ok u.toNat w := fun k c => run_sliceBound w k u cap c (by omega) (by omega)
  have hb2 : ∀ k c, (Instr.sliceBound (.int k l) u.toNat c).run P w = .ok l.toNat w := fun k c => run_sliceBound w k l u.toNat c h0 (by omega)
  rcases hl with ⟨rfl, hl⟩ | ⟨k, rfl⟩ <;> rcases hu with ⟨rfl, hu⟩ | ⟨k', rfl⟩
  · have e : u.toNat = len := by omega
    subst hl
    simp [Instr.sliceBounds, e]
  · subst hl
    simp [Instr.sliceBounds, hb1]
  · have e : u.toNat = len := by omega
    rw [e] at hb2 ⊢
    simp [Instr.sliceBounds, hb2]
  · simp [Instr.sliceBounds, hb1, hb2]
theorem d_sls {T : TypeId} {x : Operand} {lo hi : Option Operand} {s : ByteArray} {l u : Int} (h : SimO M N S fr own w) (ho : o.op = .slice T x lo hi none) (ht : P.underlying T = some .string) (hx : ev x = .string s)
    (hl : bndOK (lo.map ev) 0 l) (hu : bndOK (hi.map ev) s.size u) (h0 : 0 ≤ l) (h1 : l ≤ u) (h2 : u ≤ s.size) : Done P o ev M N S fr w nm (some (.one (.v (.string (s.extract l.toNat u.toNat))))) .nil := by
  refine done_pure h (v := .string (s.extract l.toNat u.toNat)) ?_ (Rep.v _ _ rfl)
  have hb := run_bounds (P := P) (w := w) (isSlice := false) hl hu (Nat.le_refl _) h0 h1 h2
  simp [execOp, ho, hx, run_sliceAt_string w T _ _ _ _ ht, Instr.slice, run_underlying ht, hb]
theorem d_len_s {T : TypeId} {x : Operand} {s : ByteArray} (h : SimO M N S fr own w) (ho : o.op = .call { callee := .builtin .len, args := #[x], argTypes := #[T] }) (ht : P.underlying T = some .string) (hx : ev x = .string s) :
    Done P o ev M N S fr w nm (some (.one (.v (.int .i64 s.size)))) .nil := by
  refine done_pure h (v := .int .i64 s.size) ?_ (Rep.v _ _ rfl)
  unfold execOp
  simp only [ho, resolve, invoke, builtin, Sem.run_bind, Sem.run_pure, Result.andThen_ok, List.map_toArray, List.map_cons, List.map_nil, hx, run_len_string w T o.type s ht]
  rfl
theorem d_len_l {T e : TypeId} {x : Operand} {A : Option Addr} {n c : Nat} (h : SimO M N S fr own w) (ho : o.op = .call { callee := .builtin .len, args := #[x], argTypes := #[T] }) (ht : P.underlying T = some (.slice e)) (hx : ev x = .slice A n c) :
    Done P o ev M N S fr w nm (some (.one (.v (.int .i64 n)))) .nil := by
  refine done_pure h (v := .int .i64 n) ?_ (Rep.v _ _ rfl)
  have he : P.elem T = e := by simp [Program.elem, ht]
  unfold execOp
  simp only [ho, resolve, invoke, builtin, Sem.run_bind, Sem.run_pure, Result.andThen_ok, List.map_toArray, List.map_cons, List.map_nil, hx, run_len_slice w T o.type A n c (by rw [he]; exact ht)]
  rfl
end
end Go.Proofs.YtbhingdlclfipaaDoor.Ab
