/- An abstract calculus over pure data, part 8: the code's own operations do what part 3 says (bytes and texts, slices of slices, appends). -/
import Derived.Test.YtbhingdlclfipaaDoorAb7
namespace Go.Proofs.YtbhingdlclfipaaDoor.Ab
open Go Go.RowKit
set_option linter.unusedVariables false
set_option linter.unusedSimpArgs false

section
variable {P : Program} {o : Oper} {ev : Operand → Value} {M : Gh} {N : Nms} {S : St} {fr : Nat → Prop} {own : Nat → Option Ow} {w : World} {nm : Nat}

def intOf : List D → Int
  | [.v (.int _ n)] => n
  | _ => 0
theorem byteOf_eq (x : List D) : byteOf x = UInt8.ofNat (intOf x).toNat := by
  unfold byteOf intOf
  split <;> simp
theorem strOf_eq (xs : List (List D)) : strOfNums (xs.map intOf) = strOf xs := by
  simp only [strOfNums, strOf, List.map_map]
  congr 2
  apply List.map_congr_left
  intro x _
  simp [byteOf_eq]
theorem isByte_inv {x : List D} (h : isByte x) : x = [.v (.int .u8 (intOf x))] := by
  unfold isByte at h
  split at h
  · rfl
  · exact h.elim
theorem d_cvs {T U e : TypeId} {x : Operand} {t : Tk} {xs : List (List D)} (h : SimO M N S fr own w) (ho : o.op = .convert T U x) (hT : P.underlying T = some (.slice e)) (he : P.underlying e = some (.int .u8)) (hU : P.underlying U = some .string)
    (hx : Rep M.pc N (ev x) (.sl t 1 xs)) (hb : ∀ x ∈ xs, isByte x) : Done P o ev M N S fr w nm (some (.one (.v (.string (strOf xs))))) .nil := by
  obtain ⟨Ad, cap, g, off, u, hv, hA, hl, hc, hm, hp, hr, ht⟩ := hx.sl_inv
  refine done_pure h (v := .string (strOf xs)) ?_ (Rep.v _ _ rfl)
  rcases hA with rfl | rfl
  · have : xs = [] := List.eq_nil_of_length_eq_zero (by omega)
    subst this
    have hr : (convert T U (.slice Ad 0 0)).run P w = .ok (.string ByteArray.empty) w := by
      cases Ad with
      | none => exact run_convert_bytes_nil (P := P) w T e hT he 0 0 U hU
      | some b =>
        rw [run_convert_bytes_string w T U e _ 0 0 hT he hU, run_bytesToString w b 0 0 [] (by simp [loadCells, loadCellsFrom])]
        rfl
    simp only [execOp, ho, hv, List.length_nil, hr, Sem.run_bind, Result.andThen_ok, Sem.run_pure]
    rfl
  · have hr := run_convert_bytes_arg (P := P) w T e hT he g off xs.length cap (xs.map intOf) (by simp) (fun i hi => by
      have h1 := hp i hi 0 (by omega)
      rw [Nat.mul_one, Nat.add_zero] at h1
      rw [h.pc _ _ _ h1]
      have hx := isByte_inv (hb xs[i] (List.getElem_mem hi))
      have h2 := (hr i 0 (.v (.int .u8 (intOf xs[i]))) (by rw [List.getElem?_eq_getElem hi]; show xs[i][0]? = _; rw [hx]; rfl)).v_inv
      rw [h2]
      simp [List.getD, hi]) U hU
    simp only [execOp, ho, hv, hr, Sem.run_bind, Result.andThen_ok, Sem.run_pure, strOf_eq]
theorem d_cvs_rs {T U e E : TypeId} {x : Operand} {b q len : Nat} {cs : List D} (h : SimO M N S fr own w) (ho : o.op = .convert T U x) (hT : P.underlying T = some (.slice e)) (he : P.underlying e = some (.int .u8)) (hU : P.underlying U = some .string)
    (hx : Rep M.pc N (ev x) (.rs b q len)) (hbx : S.bx b = some (.cells E cs)) (hl : q + len ≤ cs.length) (hb : ∀ x ∈ (cs.drop q).take len, isByte [x]) :
    Done P o ev M N S fr w nm (some (.one (.v (.string (strOf (((cs.drop q).take len).map fun x => [x])))))) .nil := by
  refine done_pure h (v := .string _) ?_ (Rep.v _ _ rfl)
  generalize hv : ev x = v at hx
  cases hx with
  | rs _ _ _ _ cap g hg hc hm =>
    obtain ⟨us, fz, hu, _, hrep⟩ := h.cells hbx hg
    have hlen : (((cs.drop q).take len).map fun x => [x]).length = len := by simp; omega
    have hr := run_convert_bytes_arg (P := P) w T e hT he g q len cap ((((cs.drop q).take len).map fun x => [x]).map intOf) (by simpa using hlen) (fun i hi => by
      have hlt : q + i < cs.length := by omega
      have hmem : cs[q + i] ∈ (cs.drop q).take len := by
        rw [List.mem_iff_getElem?]
        exact ⟨i, by rw [List.getElem?_take, if_pos hi, List.getElem?_drop, List.getElem?_eq_getElem hlt]⟩
      have hx := isByte_inv (hb _ hmem)
      obtain ⟨v, h1, h2⟩ := hrep.2 (q + i) cs[q + i] (List.getElem?_eq_getElem hlt)
      have hce : cs[q + i] = .v (.int .u8 (intOf [cs[q + i]])) := by injection hx
      rw [hce] at h2
      have := h2.v_inv; subst this
      rw [List.getElem?_take, if_pos hlt] at h1
      rw [cell_of_heap hu, ← Array.getElem?_toList, h1]
      simp [List.getD, List.getElem?_take, hi, hlt]) U hU
    simp only [execOp, ho, hv, hr, Sem.run_bind, Result.andThen_ok, Sem.run_pure, strOf_eq]
theorem One.bytes (w : World) (e : TypeId) (s : ByteArray) : One w (Lib.bytesWorld w e s) (.cells (Lib.bytesCells w e s) e ((Lib.bytesCells w e s).size, (Lib.bytesCells w e s).size + 1)) :=
  ⟨⟨by simp [Lib.bytesWorld, World.freeze, World.alloc, World.drew, -World.alloc_eq, -World.drew_eq], by simp [Lib.bytesWorld, World.freeze, World.alloc, World.drew, -World.alloc_eq, -World.drew_eq], by simp [Lib.bytesWorld, World.freeze, World.alloc, World.drew, -World.alloc_eq, -World.drew_eq]⟩,
   Lib.bytesWorld_size w e s, fun r hr => Lib.bytesWorld_at_old w e s r hr, Lib.bytesWorld_at_new w e s⟩
def byteVs (s : ByteArray) : Array Value := s.data.map fun b => Value.int .u8 b.toNat
theorem byteVs_size (s : ByteArray) : (byteVs s).size = s.size := by simp [byteVs]
theorem flatten_bytesD (s : ByteArray) : (bytesD s).flatten = s.data.toList.map fun b => D.v (.int .u8 (b.toNat : Int)) := by
  unfold bytesD
  induction s.data.toList with
  | nil => rfl
  | cons b l ih => simp [ih]
theorem bytesD_length (s : ByteArray) : (bytesD s).length = s.size := by simp [bytesD]
theorem bytesD_one (s : ByteArray) : ∀ x ∈ bytesD s, x.length = 1 := by
  intro x hx
  obtain ⟨b, _, rfl⟩ := List.mem_map.1 hx
  rfl
theorem rep_byteVs {pc : Nat → Nat → Option Value} {N : Nms} (s : ByteArray) : RepL pc N (byteVs s).toList (bytesD s).flatten := by
  rw [flatten_bytesD]
  refine ⟨by simp [byteVs], fun j d hd => ?_⟩
  rw [List.getElem?_map] at hd
  obtain ⟨b, hb, rfl⟩ := Option.map_eq_some_iff.1 hd
  refine ⟨.int .u8 b.toNat, ?_, .v _ _ rfl⟩
  have hb' : s.data[j]? = some b := by rw [← Array.getElem?_toList]; exact hb
  simp [byteVs, hb']
theorem bytesCells_take (w : World) (e : TypeId) (s : ByteArray) : (Lib.bytesCells w e s).toList.take s.size = (byteVs s).toList := by
  simp only [Lib.bytesCells, Array.toList_append]
  rw [List.take_left' (by simp)]
  rfl
theorem bytesCells_get (w : World) (e : TypeId) (s : ByteArray) (i : Nat) (h : i < s.size) : (Lib.bytesCells w e s)[i]? = (byteVs s)[i]? := by
  rw [← Array.getElem?_toList, ← Array.getElem?_toList, ← bytesCells_take w e s, List.getElem?_take, if_pos h]
theorem d_cvb {T U e : TypeId} {x : Operand} {s : ByteArray} (h : SimO M N S fr own w) (ho : o.op = .convert T U x) (hT : P.underlying T = some .string) (hU : P.underlying U = some (.slice e)) (he : P.underlying e = some (.int .u8))
    (hx : ev x = .string s) (hs : s.size ≤ 140737488355328) : Done P o ev M N S fr w nm (some (.one (.sl .no 1 (bytesD s)))) .nil := by
  have one := One.bytes w e s
  have hm : s.size ≤ maxLen := by simp only [maxLen]; omega
  have hle := Gh.le_row (M := M) (g := w.heap.size) (k := s.size) (us := Lib.bytesCells w e s) h.pc_new h.not_fro
  refine ⟨some (.slice (some ⟨w.heap.size, 0, none⟩) s.size (grownCap w s.size 0 e)), _, M.row w.heap.size s.size (Lib.bytesCells w e s), N, own, ?_, hle, Nms.Le.refl _, (h.newRow one s.size).later fun _ hn => hn.1, ?_⟩
  · simp only [execOp, ho, hx, Sem.run_bind, Lib.run_convert_string_bytes w T U e s hT hU he, Result.andThen_ok, Sem.run_pure, nextOf]
  · have := rep_row (M := M) (us := byteVs s) (g := w.heap.size) (t := .no) (sz := 1) (xs := bytesD s) (cap := grownCap w s.size 0 e) (rep_byteVs s) (bytesD_one s) (by rw [bytesD_length]; exact grownCap_ge w _ _ _) (grownCap_le_maxLen w _ _ _ hm)
      (pc := (M.row w.heap.size s.size (Lib.bytesCells w e s)).pc) (fun i hi => by
        rw [bytesD_length, Nat.mul_one] at hi
        show (if _ = _ then (if i < s.size then _ else _) else _) = _
        rw [if_pos rfl, if_pos hi, bytesCells_get w e s i hi]) hle.pc (N' := N) trivial
    rw [bytesD_length] at this
    exact this
theorem d_cvm {T U e : TypeId} {x : Operand} {s : ByteArray} (h : SimO M N S fr own w) (hnm : fr nm) (ho : o.op = .convert T U x) (hT : P.underlying T = some .string) (hU : P.underlying U = some (.slice e)) (he : P.underlying e = some (.int .u8))
    (hx : ev x = .string s) (hs : s.size ≤ 140737488355328) : Done P o ev M N S fr w nm (some (.one (.rs nm 0 s.size))) { nb := some (.cells e (bytesD s).flatten) } := by
  have one := One.bytes w e s
  have hm : s.size ≤ maxLen := by simp only [maxLen]; omega
  have hb : BoxRep M.pc N (.cells (Lib.bytesCells w e s) e ((Lib.bytesCells w e s).size, (Lib.bytesCells w e s).size + 1)) (.cells e (bytesD s).flatten) := by
    refine ⟨_, _, rfl, .inr (Nat.le_refl _), ?_⟩
    have : (bytesD s).flatten.length = s.size := by rw [len_flatten (bytesD_one s), bytesD_length, Nat.mul_one]
    rw [this, bytesCells_take]
    exact rep_byteVs s
  refine ⟨some (.slice (some ⟨w.heap.size, 0, none⟩) s.size (grownCap w s.size 0 e)), _, M, N.box nm w.heap.size, _, ?_, Gh.Le.refl _, Nms.le_box (h.fresh nm hnm).1, h.newBox hnm one hb, ?_⟩
  · simp only [execOp, ho, hx, Sem.run_bind, Lib.run_convert_string_bytes w T U e s hT hU he, Result.andThen_ok, Sem.run_pure, nextOf]
  · exact Rep.rs _ nm 0 s.size _ _ (upd_same _ _ _) (grownCap_ge w _ _ _) (grownCap_le_maxLen w _ _ _ hm)
theorem d_iad_rs {T e : TypeId} {x y : Operand} {b q len sz : Nat} {k : IntKind} {i : Int} {inf : TypeInfo} (h : SimO M N S fr own w) (ho : o.op = .indexAddr T x y) (hu : P.underlying T = some (.slice e)) (hi : P.info? e = some inf) (hsz : inf.size = sz)
    (hx : Rep M.pc N (ev x) (.rs b q len)) (hy : ev y = .int k i) (h0 : 0 ≤ i) (h1 : i < len) : Done P o ev M N S fr w nm (some (.one (.ptr b (q + i.toNat * sz)))) .nil := by
  generalize hv : ev x = v at hx
  cases hx with
  | rs _ _ _ _ cap g hg hc hm =>
    refine done_pure h (v := .pointer (some ⟨g, q + i.toNat * sz, none⟩)) ?_ (Rep.ptr _ _ _ _ hg)
    have hi' : (0 ≤ i ∧ i < (len : Int)) := ⟨h0, h1⟩
    simp [execOp, ho, Instr.indexAt, hy, asIntOf, run_underlying hu, hv, hi', sizeOf, typeInfo, hi, hsz, Addr.add_lit]
theorem d_sll {T e : TypeId} {x : Operand} {lo hi : Option Operand} {t : Tk} {sz : Nat} {xs : List (List D)} {l u : Int} {inf : TypeInfo} (h : SimO M N S fr own w) (ho : o.op = .slice T x lo hi none) (hT : P.underlying T = some (.slice e)) (hi' : P.info? e = some inf) (hsz : inf.size = sz)
    (hx : Rep M.pc N (ev x) (.sl t sz xs)) (hl : bndOK (lo.map ev) 0 l) (hu : bndOK (hi.map ev) xs.length u) (h0 : 0 ≤ l) (h1 : l ≤ u) (h2 : u ≤ xs.length) :
    Done P o ev M N S fr w nm (some (.one (.sl .no sz ((xs.take u.toNat).drop l.toNat)))) .nil := by
  obtain ⟨Ad, cap, g, off, v, hv, hA, hlen, hc, hm, hp, hr, ht⟩ := hx.sl_inv
  have he : P.elem T = e := by simp [Program.elem, hT]
  have hT' : P.underlying T = some (.slice (P.elem T)) := by rw [he]; exact hT
  have hb := run_bounds (P := P) (w := w) (isSlice := true) hl hu hc h0 h1 h2
  have hrun : (execOp ev o).run P w = .ok (.value (sliced Ad l.toNat u.toNat cap sz)) w := by
    simp [execOp, ho, hv, run_sliceAt_slice w T _ _ _ _ hT', run_slice_any w T Ad xs.length cap hT', hb, he, sizeOf, typeInfo, hi', hsz]
  refine done_pure h hrun ?_
  have hln : ((xs.take u.toNat).drop l.toNat).length = u.toNat - l.toNat := by simp; omega
  have hget : ∀ i, i < u.toNat - l.toNat → ((xs.take u.toNat).drop l.toNat)[i]? = xs[l.toNat + i]? := fun i hi => by
    rw [List.getElem?_drop, List.getElem?_take, if_pos (by omega)]
  have key : ∀ (Ad' : Option Addr) (off' : Nat), (cap - l.toNat = 0 ∨ Ad' = some ⟨g, off', none⟩) → (u.toNat - l.toNat = 0 ∨ off' = off + l.toNat * sz) →
      Rep M.pc N (.slice Ad' (u.toNat - l.toNat) (cap - l.toNat)) (.sl .no sz ((xs.take u.toNat).drop l.toNat)) := by
    intro Ad' off' hA' ho'
    have := Rep.sl (pc := M.pc) N Ad' (cap - l.toNat) .no sz ((xs.take u.toNat).drop l.toNat) g off' (fun i k => v (l.toNat + i) k) hA' (fun x hx => hlen x (List.mem_of_mem_take (List.mem_of_mem_drop hx))) (by rw [hln]; omega) (by omega)
      (fun i hi k hk => by
        rw [hln] at hi
        rcases ho' with ho' | ho'
        · omega
        · have := hp (l.toNat + i) (by omega) k hk
          rw [ho', ← this]
          congr 1
          rw [Nat.add_mul]; omega)
      (fun i k d hd => by
        rcases Nat.lt_or_ge i (u.toNat - l.toNat) with hi | hi
        · rw [hget i hi] at hd; exact hr _ k d hd
        · rw [List.getElem?_eq_none (by rw [hln]; exact hi)] at hd; cases hd) trivial
    rw [hln] at this
    exact this
  rcases hA with rfl | rfl
  · have hl0 : l.toNat = 0 := by omega
    have e1 : sliced Ad l.toNat u.toNat 0 sz = .slice Ad (u.toNat - l.toNat) (0 - l.toNat) := by simp [sliced, hl0]
    rw [e1]
    exact key Ad off (.inl (by omega)) (.inl (by omega))
  · by_cases hcl : cap = l.toNat
    · have e1 : sliced (some (⟨g, off, none⟩ : Addr)) l.toNat u.toNat cap sz = .slice (some ⟨g, off, none⟩) (u.toNat - l.toNat) (cap - l.toNat) := by simp [sliced, hcl]
      rw [e1]
      exact key _ off (.inr rfl) (.inl (by omega))
    · have e1 : sliced (some (⟨g, off, none⟩ : Addr)) l.toNat u.toNat cap sz = .slice (some ⟨g, off + l.toNat * sz, none⟩) (u.toNat - l.toNat) (cap - l.toNat) := by simp [sliced, hcl, Addr.add_lit]
      rw [e1]
      exact key _ (off + l.toNat * sz) (.inr rfl) (.inr rfl)
end
end Go.Proofs.YtbhingdlclfipaaDoor.Ab
