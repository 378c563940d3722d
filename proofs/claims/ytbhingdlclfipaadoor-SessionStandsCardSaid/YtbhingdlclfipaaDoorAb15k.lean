/- An abstract calculus over pure data, part 15k: more operations, for regions in order: arrays, rows that are made, texts that are ranged over. -/
import Derived.Test.YtbhingdlclfipaaDoorAb15
import Derived.Lib.BufferWrite
import Derived.Lib.OthersKept
namespace Go.Proofs.YtbhingdlclfipaaDoor.Ab
open Go Go.RowKit
set_option linter.unusedVariables false
set_option linter.unusedSimpArgs false

/-- bda: an array out of parts. ixa: a cell of an array. mk: a row. cp: a text into a row that is as long. fz: from here on nothing is written into a row but behind its end. rg, nx: over a text. -/
inductive K where
  | bda (zs : List D) (ps : List (Nat × Nat × X))
  | ixa (n : Nat) (x y : X)
  | mk (e : TypeId) (z : D) (bytes : Nat) (x y : X)
  | cp (x y : X)
  | fz (e : TypeId) (x : X)
  | cb (e : TypeId) (x : X)
  | rg (x : X)
  | nx (x : X)
/-- What an operation gives, and the variables and rows behind it. -/
abbrev KR := Option (Prop × Option A × (Nat → Option Box) × (Nat → Option (TypeId × Nat)))
def ones (cs : List D) : List (List D) := cs.map fun d => [d]
def kstep (S : St) (nm : Nat) : K → KR
  | .bda zs ps => (parts S.env ps).map fun l => (partsOK zs.length l, some (.agg (fillL zs l)), S.bx, S.tk)
  | .ixa n x y =>
    match x.val S.env, y.val S.env with
    | some (.agg cs), some (.one (.v (.int _ i))) => some (cs.length = n ∧ 0 ≤ i ∧ i < n, some (.one (cs.getD i.toNat (.v undef))), S.bx, S.tk)
    | _, _ => none
  | .mk e z bytes x y =>
    match x.val S.env, y.val S.env with
    | some (.one (.v (.int .i64 l))), some (.one (.v (.int .i64 c))) => some (0 ≤ l ∧ l ≤ c ∧ c * bytes ≤ 140737488355328, some (.one (.ow nm l.toNat c.toNat)), upd S.bx nm (some (.row e 1 c.toNat (List.replicate l.toNat z))), S.tk)
    | _, _ => none
  | .cp x y =>
    match x.val S.env, y.val S.env with
    | some (.one (.ow n len cap)), some (.one (.v (.string s))) => match S.bx n with
      | some (.row e 1 cap' cs) => some (len = s.size ∧ cap' = cap, some (.one (.v (.int .i64 s.size))), upd S.bx n (some (.row e 1 cap (bytesD s).flatten)), S.tk)
      | _ => none
    | _, _ => none
  | .fz e x =>
    match x.val S.env with
    | some (.one (.ow n len cap)) => match S.bx n with
      | some (.row e' 1 cap' cs) => (cloL cs).map fun c => (e' = e ∧ cap' = cap ∧ cs.length = len, some (.one (.sl (.tk nm) 1 (ones c))), upd S.bx n none, upd S.tk nm (some (e, 1)))
      | _ => none
    | _ => none
  | .cb e x =>
    match x.val S.env with
    | some (.one (.v (.string s))) => some (s.size ≤ 140737488355328, some (.one (.sl (.tk nm) 1 (bytesD s))), S.bx, upd S.tk nm (some (e, 1)))
    | _ => none
  | .rg x =>
    match x.val S.env with
    | some (.one (.v (.string s))) => some (True, some (.one (.it nm)), upd S.bx nm (some (.iter s 0)), S.tk)
    | _ => none
  | .nx x =>
    match x.val S.env with
    | some (.one (.it n)) => match S.bx n with
      | some (.iter s p) =>
        if p < s.size then some (True, some (.tup [.one (.v (.bool true)), .one (.v (.int .i64 p)), .one (.v (.int .i32 (Utf8.decode s p).1))]), upd S.bx n (some (.iter s (p + (Utf8.decode s p).2))), S.tk)
        else some (True, some (.tup [.one (.v (.bool false))]), S.bx, S.tk)
      | _ => none
    | _ => none
def K.slots : K → List Nat
  | .bda _ ps => ps.flatMap fun p => p.2.2.slot
  | .ixa _ x y | .mk _ _ _ x y | .cp x y => x.slot ++ y.slot
  | .fz _ x | .cb _ x | .rg x | .nx x => x.slot
def mtPA (sz : Nat) : List (Nat × Operand) → List (Nat × Nat × X) → Bool
  | [], [] => true
  | (j, o) :: r, (off, n, x) :: s => off == j * sz && n == sz && mtX o x && mtPA sz r s
  | _, _ => false
def mtK (P : Program) : Op → K → Bool
  | .build T ⟨qs⟩, .bda zs ps => (match P.underlying T with | some (.array _ e) => (match P.info? e with | some i => mtPA i.size qs ps | none => false) | _ => false) && zeroB P T zs
  | .index T x y, .ixa n x' y' => (match P.underlying T with | some (.array n' e) => n' == n && szB P e 1 && !isAggB P e && (P.underlying e).isSome | _ => false) && mtX x x' && mtX y y'
  | .makeSlice T x y, .mk e z bytes x' y' => (match P.underlying T with | some (.slice e') => e' == e && elemB P e 1 bytes && zeroB P e [z] | _ => false) && mtX x x' && mtX y y'
  | .call { callee := .builtin .copy, args := ⟨[x, y]⟩, argTypes := ⟨[T, T']⟩ }, .cp x' y' => bytesB P T && szE P T && mtX x x' && mtX y y'
  | .move x, .fz _ y => mtX x y
  | .convert T U x, .cb e y => strB P T && bytesB P U && (match P.underlying U with | some (.slice e') => e' == e | _ => false) && mtX x y
  | .range T x, .rg y => strB P T && mtX x y
  | .next x true, .nx y => mtX x y
  | _, _ => false
where szE (P : Program) (T : TypeId) : Bool := match P.underlying T with | some (.slice e) => szB P e 1 | _ => false

section
variable {P : Program} {o : Oper} {ev : Operand → Value} {M : Gh} {N : Nms} {S S' : St} {fr : Nat → Prop} {own : Nat → Option Ow} {w : World} {nm : Nat} {a : Act}
/-- What an operation does. -/
def DoneS (P : Program) (o : Oper) (ev : Operand → Value) (M : Gh) (N : Nms) (S' : St) (fr : Nat → Prop) (w : World) (nm : Nat) (r : Option A) : Prop :=
  ∃ ov w' M' N' own', (execOp ev o).run P w = .ok (nextOf ov) w' ∧ M.Le M' ∧ N.Le N' ∧ SimO M' N' S' (fun n => fr n ∧ n ≠ nm) own' w' ∧ RepO M'.pc N' ov r
theorem doneS_pure {v : Value} {r : A} (h : SimO M N S fr own w) (hr : (execOp ev o).run P w = .ok (.value v) w) (hv : RepA M.pc N v r) : DoneS P o ev M N S fr w nm (some r) :=
  ⟨some v, w, M, N, own, hr, Gh.Le.refl _, Nms.Le.refl _, h.later fun _ hn => hn.1, hv⟩
theorem k_bda {T e : TypeId} {n : Nat} {qs : Array (Nat × Operand)} {i ie : TypeInfo} {z : Value} {zs : List D} {l : List (Nat × Nat × List D)} (h : SimO M N S fr own w) (ho : o.op = .build T qs) (hu : P.underlying T = some (.array n e))
    (hie : P.info? e = some ie) (hi : P.info? T = some i) (hz : i.zero = some z) (hc : constL z.cells.toList zs = true)
    (hp : PartsRep M.pc N (fun j => some (j * ie.size, ie.size)) (qs.toList.map fun (j, x) => (j, ev x)) l) (hok : partsOK zs.length l) : DoneS P o ev M N S fr w nm (some (.agg (fillL zs l))) := by
  obtain ⟨us', e1, e2, e3⟩ := fill_rep hp z.cells zs (constL_rep hc) hok
  refine doneS_pure h (v := .agg us') ?_ ⟨us', rfl, e3⟩
  simp only [execOp, ho, Instr.build, zeroValue, typeInfo, sizeOf, Sem.run_bind, run_program, hi, hz, hie, Sem.run_pure, Result.andThen_ok, run_underlying hu]
  simp only [Array.toList_map, e1, Sem.run_pure, Result.andThen_ok]
theorem k_ixa {T e : TypeId} {n : Nat} {x y : Operand} {cs : List D} {k : IntKind} {i : Int} {d : TypeDesc} (h : SimO M N S fr own w) (ho : o.op = .index T x y) (hu : P.underlying T = some (.array n e)) (hd : P.underlying e = some d) (hs : szB P e 1 = true) (hag : isAggB P e = false)
    (hx : RepA M.pc N (ev x) (.agg cs)) (hy : ev y = .int k i) (hl : cs.length = n) (h0 : 0 ≤ i) (hn : i < n) : DoneS P o ev M N S fr w nm (some (.one (cs.getD i.toNat (.v undef)))) := by
  obtain ⟨us, hus, hr⟩ := hx
  obtain ⟨ie, hie, hsz⟩ := szB_spec hs
  have hi : i.toNat < cs.length := by omega
  obtain ⟨v, hv, hrep⟩ := hr.2 i.toNat _ (List.getElem?_eq_getElem hi)
  refine doneS_pure h (v := v) ?_ ?_
  · have hv' : us[i.toNat]? = some v := by rw [← Array.getElem?_toList]; exact hv
    have hag' : (isAgg e).run P w = .ok false w := by rw [run_isAgg hd, hag]
    simp [execOp, ho, Instr.index, hus, hy, asIntOf, run_underlying hu, h0, hn, part, sizeOf, typeInfo, hie, hsz, hag', hv', Result.andThen]
  · simp only [List.getD_eq_getElem?_getD, List.getElem?_eq_getElem hi, Option.getD_some]
    exact hrep
theorem k_mk {T e : TypeId} {bytes : Nat} {x y : Operand} {l c : Int} {z : D} {i : TypeInfo} {zv : Value} (h : SimO M N S fr own w) (hnm : fr nm) (ho : o.op = .makeSlice T x y) (hu : P.underlying T = some (.slice e)) (hi : P.info? e = some i) (hz : i.zero = some zv) (hsz : i.size = 1) (hby : i.bytes = bytes) (hzs : zv.cells.size = 1) (hb0 : 0 < bytes)
    (hc : constL zv.cells.toList [z] = true) (hx : ev x = .int .i64 l) (hy : ev y = .int .i64 c) (h0 : 0 ≤ l) (hlc : l ≤ c) (hbytes : c * bytes ≤ 140737488355328) : DoneS P o ev M N { S with bx := upd S.bx nm (some (.row e 1 c.toNat (List.replicate l.toNat z))) } fr w nm (some (.one (.ow nm l.toNat c.toNat))) := by
  have hcb : c * 1 ≤ c * (bytes : Int) := Int.mul_le_mul_of_nonneg_left (by omega) (by omega)
  have hrun := run_make (P := P) (w := w) T e i zv hu hi hz .i64 .i64 l c h0 hlc (by rw [hby, Int.mul_comm]; omega) (by omega)
  have one := One.alloc w (.cells (madeCells zv.cells (c.toNat * i.size)) e)
  have hms : (madeCells zv.cells (c.toNat * i.size)).size = c.toNat * 1 := by rw [size_madeCells, hsz]
  obtain ⟨u, us, hus, hz1, hz2⟩ := (constL_rep (pc := M.pc) (N := N) hc).cons_inv
  have hz2' := hz2.nil_inv
  subst hz2'
  have hget : ∀ j, j < c.toNat → (madeCells zv.cells (c.toNat * i.size))[j]? = some u := by
    intro j hj
    have h1 : (zv.cells[j % zv.cells.size]!) = u := by
      have hu0 : zv.cells[0]? = some u := by rw [← Array.getElem?_toList, hus]; rfl
      rw [hzs, Nat.mod_one]
      rw [getElem!_def, hu0]
    simp only [madeCells, Array.getElem?_map, hsz, Nat.mul_one]
    rw [Array.getElem?_range]
    simp [hj, h1]
  have hrep : BoxRep M.pc N (.cells (madeCells zv.cells (c.toNat * i.size)) e) (.row e 1 c.toNat (List.replicate l.toNat z)) := by
    refine ⟨_, rfl, hms, ?_⟩
    refine ⟨by simp [hms]; omega, fun j d hd => ?_⟩
    rw [List.getElem?_replicate] at hd
    split at hd
    · rename_i hj
      simp only [Option.some.injEq] at hd
      subst hd
      refine ⟨u, ?_, hz1⟩
      rw [List.getElem?_take, List.length_replicate, if_pos hj, Array.getElem?_toList]
      exact hget j (by omega)
    · cases hd
  refine ⟨some (.slice (some ⟨w.heap.size, 0, none⟩) l.toNat c.toNat), _, M, N.box nm w.heap.size, _, ?_, Gh.Le.refl _, Nms.le_box (h.fresh nm hnm).1, h.newBox hnm one hrep, ?_⟩
  · simp only [execOp, ho, hx, hy, Sem.run_bind, hrun, Result.andThen_ok, Sem.run_pure, nextOf]
  · exact Rep.ow _ nm _ _ _ (upd_same _ _ _) (by omega) (by unfold maxLen; omega)
theorem k_cp' {T T' e e' : TypeId} {x y : Operand} {n len cap : Nat} {s : ByteArray} {cs : List D} (h : SimO M N S fr own w) (ho : o.op = .call { callee := .builtin .copy, args := ⟨[x, y]⟩, argTypes := ⟨[T, T']⟩ }) (hu : P.underlying T = some (.slice e)) (hs : (P.info? e).map (·.size) = some 1)
    (hx : Rep M.pc N (ev x) (.ow n len cap)) (hy : ev y = .string s) (hb : S.bx n = some (.row e' 1 cap cs)) (hl : len = s.size) :
    DoneS P o ev M N { S with bx := upd S.bx n (some (.row e' 1 cap (bytesD s).flatten)) } fr w nm (some (.one (.v (.int .i64 s.size)))) := by
  have hex : ∀ (u : Value) (w' : World), (Builtin.copy_ #[T, T'] o.type #[ev x, ev y]).run P w = .ok u w' → (execOp ev o).run P w = .ok (.value u) w' := by
    intro u w' hr
    unfold execOp
    simp only [ho, resolve, invoke, builtin, Sem.run_bind, Sem.run_pure, Result.andThen_ok, List.map_toArray, List.map_cons, List.map_nil, hr]
  generalize hvx : ev x = vx at *
  cases hx with
  | ow _ _ _ _ g hg hlc hm =>
    obtain ⟨g', q, h1, h2, h3, ⟨us, rfl, hus, hr⟩, h5, h6⟩ := h.box n _ hb
    have : g' = g := by rw [hg] at h1; injection h1 with h1; exact h1.symm
    subst this
    have hrun := Go.Lib.run_copy_row_string (P := P) w T T' o.type e g' 0 len cap s us e' hu hs h3 (by omega) (by omega)
    rw [hy] at hex
    refine ⟨some (goInt s.size), _, M, N, own, hex _ _ hrun, Gh.Le.refl _, Nms.Le.refl _, (h.setBox (w' := w.setRow g' (us.toList.take 0 ++ Go.Lib.byteCells s.data.toList ++ us.toList.drop (0 + s.size)).toArray) hb hg ⟨rfl, rfl, rfl⟩ (by simp [World.setRow]) (setRow_heap w g' us _ e' (0, 0) h3) (fun k hk => setRow_other w g' k _ hk) ?_).later fun _ hn => hn.1, Rep.v _ _ rfl⟩
    refine ⟨_, rfl, ?_, ?_⟩
    · have : (Go.Lib.byteCells s.data.toList).length = s.size := by rw [Go.Lib.byteCells_length, Array.length_toList]; rfl
      simp [this]; omega
    · have hbl : (bytesD s).flatten.length = s.size := by rw [flatten_bytesD]; simp [byteVs]
      have hcl : (Go.Lib.byteCells s.data.toList) = (byteVs s).toList := by simp [Go.Lib.byteCells, byteVs]
      have : ((us.toList.take 0 ++ Go.Lib.byteCells s.data.toList ++ us.toList.drop (0 + s.size)).toArray.toList.take (bytesD s).flatten.length) = (byteVs s).toList := by
        simp only [List.take_zero, List.nil_append, hcl]
        rw [hbl, List.take_append_of_le_length (by simp [byteVs_size]), List.take_of_length_le (by simp [byteVs_size])]
      rw [this]
      exact rep_byteVs s
theorem tellBox (h : SimO M N S fr own w) {n g : Nat} {e : TypeId} {sz cap : Nat} {cs : List D} (hb : S.bx n = some (.row e sz cap cs)) (hg : N.bx n = some g) (k : Nat) {us : Array Value} (hh : w.heap[g]? = some (.cells us e (0, 0))) :
    M.Le (M.more g k us) ∧ SimO (M.more g k us) N { S with bx := upd S.bx n none } fr (upd own g none) w := by
  obtain ⟨g', q, h1, h2, h3, h4, h5, h6⟩ := h.box n _ hb
  have : g' = g := by rw [hg] at h1; injection h1 with h1; exact h1.symm
  subst this
  have hnf : ¬ M.fro g' := fun hf => by have := (h.fro g' hf).2; rw [h2] at this; cases this
  have hle : M.Le (M.more g' k us) := by
    refine ⟨fun b i u e => ?_, fun _ _ e => e, rfl, rfl, fun b hb i => ?_, rfl, rfl⟩
    · show (if b = g' then _ else M.pc b i) = some u
      rw [if_neg]
      · exact e
      · rintro rfl; rw [h6] at e; cases e
    · show (if b = g' then _ else M.pc b i) = _
      rw [if_neg]
      rintro rfl; exact hnf hb
  refine ⟨hle, ⟨h.base, fun b i u e => ?_, h.im, fun b hb => ⟨(h.fro b hb).1, ?_⟩, fun b q e => ?_, fun m b e => ?_, fun t Q e => ?_, h.fresh, fun q hq => hle.pc _ _ _ (h.glob q hq), h.nb, h.big⟩⟩
  · have e' : (if b = g' then (if i < k then us[i]? else none) else M.pc b i) = some u := e
    split at e'
    · rename_i hb'; subst hb'
      rw [cell_of_heap hh]
      split at e'
      · exact e'
      · cases e'
    · exact h.pc b i u e'
  · by_cases hbg : b = g'
    · subst hbg; exact absurd hb hnf
    · rw [upd_ne _ _ _ hbg]; exact (h.fro b hb).2
  · by_cases hbg : b = g'
    · subst hbg; rw [upd_same] at e; cases e
    · rw [upd_ne _ _ _ hbg] at e; exact h.lt b q e
  · have e' : upd S.bx n none m = some b := e
    by_cases hmn : m = n
    · subst hmn; rw [upd_same] at e'; cases e'
    · rw [upd_ne _ _ _ hmn] at e'
      obtain ⟨b', q', k1, k2, k3, k4, k5, k6⟩ := h.box m b e'
      have hne : b' ≠ g' := by
        rintro rfl
        rw [h2] at k2; simp only [Option.some.injEq, Ow.bx.injEq] at k2; exact hmn k2.symm
      exact ⟨b', q', k1, by rw [upd_ne _ _ _ hne]; exact k2, k3, k4.mono hle.pc (Nms.Le.refl N), k5, fun i => by show (if b' = g' then _ else _) = _; rw [if_neg hne]; exact k6 i⟩
  · obtain ⟨v, k1, k2⟩ := h.tok t Q e
    refine ⟨v, k1, ?_⟩
    rcases k2 with k2 | ⟨b, len, cap, c, k2, k3, k4, k5, k6, k7, k8, k9⟩
    · exact .inl k2
    · have hne : b ≠ g' := by
        rintro rfl
        rw [h2] at k3; cases k3
      exact .inr ⟨b, len, cap, c, k2, by rw [upd_ne _ _ _ hne]; exact k3, k4, k5, k6, k7, k8, fun i hi => by show (if b = g' then _ else _) = _; rw [if_neg hne]; exact k9 i hi⟩
theorem ones_flatten : ∀ (cs : List D), (ones cs).flatten = cs
  | [] => rfl
  | d :: cs => by simp only [ones, List.map_cons, List.flatten_cons, List.singleton_append]; rw [← ones, ones_flatten cs]
theorem k_fz {x : Operand} {n len cap : Nat} {e : TypeId} {cs c : List D} (h : SimO M N S fr own w) (hnm : fr nm) (ho : o.op = .move x) (hx : Rep M.pc N (ev x) (.ow n len cap)) (hb : S.bx n = some (.row e 1 cap cs)) (hl : cs.length = len) (hc : cloL cs = some c) :
    DoneS P o ev M N { S with bx := upd S.bx n none, tk := upd S.tk nm (some (e, 1)) } fr w nm (some (.one (.sl (.tk nm) 1 (ones c)))) := by
  generalize hvx : ev x = vx at *
  cases hx with
  | ow _ _ _ _ g hg hlc hm =>
    obtain ⟨g', q, h1, h2, h3, ⟨us, rfl, hus, hr⟩, h5, h6⟩ := h.box n _ hb
    have : g' = g := by rw [hg] at h1; injection h1 with h1; exact h1.symm
    subst this
    obtain ⟨hle, hs1⟩ := tellBox h hb hg len h3
    have hs2 := hs1.newTok hnm (g := g') (len := len) (cap := cap) (cur := us) (E := e) (sz := 1) ⟨_, h3, .inl rfl⟩ hlc hm (by omega) h5 (fun i hi => by
      show (if _ = _ then (if i < _ then _ else _) else _) = _
      rw [if_pos rfl, if_neg (by omega)]) (fun hf => by have := (h.fro g' hf).2; rw [h2] at this; cases this) (fun n hn => by rw [upd_same] at hn; cases hn) (fun t ht => by rw [upd_same] at ht; cases ht)
    refine ⟨some (.slice (some ⟨g', 0, none⟩) len cap), w, _, _, _, ?_, hle, Nms.le_tok (h.fresh nm hnm).2, hs2, ?_⟩
    · simp [execOp, ho, hvx, nextOf]
    · have hcl := hr.clo hc
      have hlen : c.length = len := by rw [← hcl.1]; simp [hus]; omega
      have hol : (ones c).length = len := by simp [ones, hlen]
      have := rep_row (M := M) (us := (us.toList.take cs.length).toArray) (g := g') (t := .tk nm) (sz := 1) (xs := ones c) (cap := cap) (by rw [ones_flatten]; exact hcl) (fun x hx => by
        obtain ⟨d, _, rfl⟩ := List.mem_map.1 hx; rfl) (by omega) hm (pc := (M.more g' len us).pc) (fun i hi => by
        rw [hol, Nat.mul_one] at hi
        show (if _ = _ then (if i < _ then _ else _) else _) = _
        rw [if_pos rfl, if_pos hi, hl]
        simp [List.getElem?_take, hi]) hle.pc (N' := N.tok nm (.slice (some ⟨g', 0, none⟩) len cap)) (by
          show upd _ _ _ _ = _
          rw [upd_same, hol])
      rw [hol] at this
      exact this
theorem k_cb {T U e : TypeId} {x : Operand} {s : ByteArray} (h : SimO M N S fr own w) (hnm : fr nm) (ho : o.op = .convert T U x) (hT : P.underlying T = some .string) (hU : P.underlying U = some (.slice e)) (he : P.underlying e = some (.int .u8))
    (hx : ev x = .string s) (hs : s.size ≤ 140737488355328) : DoneS P o ev M N { S with tk := upd S.tk nm (some (e, 1)) } fr w nm (some (.one (.sl (.tk nm) 1 (bytesD s)))) := by
  have one := One.bytes w e s
  have hm : s.size ≤ maxLen := by simp only [maxLen]; omega
  have hle := Gh.le_row (M := M) (g := w.heap.size) (k := s.size) (us := Lib.bytesCells w e s) h.pc_new h.not_fro
  have hrow := h.newRow one s.size
  have hcs : (Lib.bytesCells w e s).size = grownCap w s.size 0 e * 1 := by
    have := grownCap_ge w s.size 0 e
    have h2 : s.data.size = s.size := rfl
    simp only [Lib.bytesCells, Array.size_append, Array.size_map, Array.size_replicate, h2]; omega
  have hown : own w.heap.size = none := by
    cases e' : own w.heap.size with
    | none => rfl
    | some q => exact absurd (h.lt _ _ e') (Nat.lt_irrefl _)
  have htok := hrow.newTok hnm (g := w.heap.size) (len := s.size) (cap := grownCap w s.size 0 e) (sz := 1) ⟨_, one.new, .inr (Nat.le_refl _)⟩ (grownCap_ge w _ _ _) (grownCap_le_maxLen w _ _ _ hm) hcs h.im_new (fun i hi => by
    show (if _ = _ then (if i < _ then _ else _) else _) = _
    rw [if_pos rfl, if_neg (by omega)]) h.not_fro (fun n hn => by rw [hown] at hn; cases hn) (fun t ht => by rw [hown] at ht; cases ht)
  refine ⟨some (.slice (some ⟨w.heap.size, 0, none⟩) s.size (grownCap w s.size 0 e)), _, _, _, _, ?_, hle, Nms.le_tok (h.fresh nm hnm).2, htok, ?_⟩
  · simp only [execOp, ho, hx, Sem.run_bind, Lib.run_convert_string_bytes w T U e s hT hU he, Result.andThen_ok, Sem.run_pure, nextOf]
  · have := rep_row (M := M) (us := byteVs s) (g := w.heap.size) (t := .tk nm) (sz := 1) (xs := bytesD s) (cap := grownCap w s.size 0 e) (rep_byteVs s) (bytesD_one s) (by rw [bytesD_length]; exact grownCap_ge w _ _ _) (grownCap_le_maxLen w _ _ _ hm)
      (pc := (M.row w.heap.size s.size (Lib.bytesCells w e s)).pc) (fun i hi => by
        rw [bytesD_length, Nat.mul_one] at hi
        show (if _ = _ then (if i < s.size then _ else _) else _) = _
        rw [if_pos rfl, if_pos hi, bytesCells_get w e s i hi]) hle.pc (N' := N.tok nm (.slice (some ⟨w.heap.size, 0, none⟩) s.size (grownCap w s.size 0 e))) (by rw [bytesD_length]; exact upd_same _ _ _)
    rw [bytesD_length] at this
    exact this
theorem k_rg {T : TypeId} {x : Operand} {s : ByteArray} (h : SimO M N S fr own w) (hnm : fr nm) (ho : o.op = .range T x) (hu : P.underlying T = some .string) (hx : ev x = .string s) :
    DoneS P o ev M N { S with bx := upd S.bx nm (some (.iter s 0)) } fr w nm (some (.one (.it nm))) := by
  have one := One.alloc w (.stringIter s 0)
  refine ⟨some (.pointer (some ⟨w.heap.size, 0, none⟩)), _, M, N.box nm w.heap.size, _, ?_, Gh.Le.refl _, Nms.le_box (h.fresh nm hnm).1, h.newBox hnm one (b := .iter s 0) rfl, ?_⟩
  · simp [execOp, ho, hx, Instr.range, run_underlying hu, nextOf]
  · exact Rep.it _ nm _ (upd_same _ _ _)
theorem k_nx {x : Operand} {n p : Nat} {s : ByteArray} (h : SimO M N S fr own w) (ho : o.op = .next x true) (hx : Rep M.pc N (ev x) (.it n)) (hb : S.bx n = some (.iter s p)) :
    (p < s.size → DoneS P o ev M N { S with bx := upd S.bx n (some (.iter s (p + (Utf8.decode s p).2))) } fr w nm (some (.tup [.one (.v (.bool true)), .one (.v (.int .i64 p)), .one (.v (.int .i32 (Utf8.decode s p).1))]))) ∧
    (¬ p < s.size → DoneS P o ev M N S fr w nm (some (.tup [.one (.v (.bool false))]))) := by
  generalize hvx : ev x = vx at *
  cases hx with
  | it _ _ g hg =>
    obtain ⟨g', q, h1, h2, h3, hq, h5, h6⟩ := h.box n _ hb
    have hq' : q = .stringIter s p := hq
    subst hq'
    have : g' = g := by rw [hg] at h1; injection h1 with h1; exact h1.symm
    subst this
    have hlt : g' < w.heap.size := lt_of_heap h3
    refine ⟨fun hp => ?_, fun hp => ?_⟩
    · have hrun := Go.Lib.run_next_any_at (P := P) w g' s p o.type h3 hp
      refine ⟨some (.tuple #[.bool true, .int .i64 p, .int .i32 (Utf8.decode s p).1]), w.iterAt g' s (p + (Utf8.decode s p).2), M, N, own, ?_, Gh.Le.refl _, Nms.Le.refl _, (h.setBox (w' := w.iterAt g' s (p + (Utf8.decode s p).2)) hb hg ⟨rfl, rfl, rfl⟩ (Go.Lib.iterAt_size w g' s _) (b' := .iter s (p + (Utf8.decode s p).2)) (Go.Lib.iterAt_heap w g' s p _ h3) (fun k hk => Go.Lib.iterAt_other w g' k s _ hk) rfl).later fun _ hn => hn.1, ?_⟩
      · simp only [execOp, ho, hvx, Sem.run_bind, hrun, Result.andThen_ok, Sem.run_pure, nextOf]
      · refine ⟨_, rfl, rfl, fun j b hj => ?_⟩
        match j, hj with
        | 0, hj => simp at hj; subst hj; exact ⟨_, rfl, Rep.v _ _ rfl⟩
        | 1, hj => simp at hj; subst hj; exact ⟨_, rfl, Rep.v _ _ rfl⟩
        | 2, hj => simp at hj; subst hj; exact ⟨_, rfl, Rep.v _ _ rfl⟩
        | j + 3, hj => simp at hj
    · refine ⟨some (.tuple #[.bool false]), w, M, N, own, ?_, Gh.Le.refl _, Nms.Le.refl _, h.later fun _ hn => hn.1, ?_⟩
      · have hrun := Go.Lib.run_next_end_at (P := P) w g' s p o.type h3 hp
        simp only [execOp, ho, hvx, Sem.run_bind, hrun, Result.andThen_ok, Sem.run_pure, nextOf]
      · refine ⟨_, rfl, rfl, fun j b hj => ?_⟩
        match j, hj with
        | 0, hj => simp at hj; subst hj; exact ⟨_, rfl, Rep.v _ _ rfl⟩
        | j + 1, hj => simp at hj
theorem parts_repA {env : Nat → Option A} {va : Nat → Prop} (he : EnvRep M.pc N env va a.tmps) {sz : Nat} : ∀ {qs : List (Nat × Operand)} {ps : List (Nat × Nat × X)} {l : List (Nat × Nat × List D)}, mtPA sz qs ps = true → parts env ps = some l → (∀ s ∈ ps.flatMap (fun p => p.2.2.slot), va s) →
    PartsRep M.pc N (fun j => some (j * sz, sz)) (qs.map fun (j, x) => (j, a.eval x)) l
  | [], [], l, _, hl, _ => by simp only [parts, Option.some.injEq] at hl; subst hl; exact .nil
  | [], _ :: _, _, hm, _, _ => by simp [mtPA] at hm
  | _ :: _, [], _, hm, _, _ => by simp [mtPA] at hm
  | (j, o) :: qs, (off, n, x) :: ps, l, hm, hl, hva => by
    simp only [mtPA, Bool.and_eq_true, beq_iff_eq] at hm
    simp only [parts] at hl
    obtain ⟨r, hr, hl⟩ := Option.bind_eq_some_iff.1 hl
    obtain ⟨c, hc, hl⟩ := Option.bind_eq_some_iff.1 hl
    obtain ⟨l', hl', rfl⟩ := Option.map_eq_some_iff.1 hl
    obtain ⟨h1, h1'⟩ := (mtX_rep hm.1.2 hr (fun n hn => hva n (by simp [hn])) he).flat hc
    have h2 := parts_repA he hm.2 hl' (fun n hn => hva n (by simp only [List.flatMap_cons, List.mem_append]; exact .inr hn))
    exact .cons j off n _ c _ _ (by rw [hm.1.1.1, hm.1.1.2]) (by rw [← h1']; exact RepA.cells h1) h2
theorem K_sound {q : K} {p : Prop} {r : Option A} {bx' : Nat → Option Box} {tk' : Nat → Option (TypeId × Nat)} (hm : mtK P o.op q = true) (h : SimO M N S fr own w) (hnm : fr nm) (he : EnvRep M.pc N S.env S.va a.tmps) (hs : kstep S nm q = some (p, r, bx', tk')) (hva : allV S.va q.slots) (hp : p) :
    DoneS P o a.eval M N { S with bx := bx', tk := tk' } fr w nm r := by
  have X1 : ∀ {y : Operand} {x : X} {b : A}, mtX y x = true → (∀ s ∈ x.slot, S.va s) → x.val S.env = some b → RepA M.pc N (a.eval y) b := fun h1 h2 h3 => mtX_rep h1 h3 h2 he
  have V := allV_mem hva
  generalize hop : o.op = op at hm
  unfold mtK at hm
  split at hm
  · -- bda
    rename_i T qs zs ps
    simp only [Bool.and_eq_true] at hm
    obtain ⟨h1, h2⟩ := hm
    split at h1
    · rename_i n e hu
      split at h1
      · rename_i ie hie
        obtain ⟨i, z, hi, hz, hc⟩ := zeroB_spec h2
        simp only [kstep] at hs
        obtain ⟨l, hl, hs⟩ := map_some hs
        simp only [Prod.mk.injEq] at hs
        obtain ⟨rfl, rfl, rfl, rfl⟩ := hs
        exact k_bda h hop hu hie hi hz hc (parts_repA he h1 hl V) hp
      · cases h1
    · cases h1
  · -- ixa
    rename_i T x y n x' y'
    simp only [Bool.and_eq_true] at hm
    obtain ⟨⟨h1, h2⟩, h3⟩ := hm
    split at h1
    · rename_i n' e hu
      simp only [Bool.and_eq_true, beq_iff_eq, Bool.not_eq_true'] at h1
      obtain ⟨⟨⟨rfl, h4⟩, h5⟩, h6⟩ := h1
      obtain ⟨d, hd⟩ := Option.isSome_iff_exists.1 h6
      simp only [kstep] at hs
      split at hs
      · rename_i cs k i hx hy
        simp only [Option.some.injEq, Prod.mk.injEq] at hs
        obtain ⟨rfl, rfl, rfl, rfl⟩ := hs
        exact k_ixa h hop hu hd h4 h5 (X1 h2 (fun s hs => V s (by simp [K.slots, hs])) hx) (X1 h3 (fun s hs => V s (by simp [K.slots, hs])) hy).B.v_inv hp.1 hp.2.1 hp.2.2
      · cases hs
    · cases h1
  · -- mk
    rename_i T x y e z bytes x' y'
    simp only [Bool.and_eq_true] at hm
    obtain ⟨⟨h1, h2⟩, h3⟩ := hm
    split at h1
    · rename_i e' hu
      simp only [Bool.and_eq_true, beq_iff_eq] at h1
      obtain ⟨⟨rfl, h4⟩, h5⟩ := h1
      obtain ⟨i, zv, hi, hz, hc⟩ := zeroB_spec h5
      obtain ⟨i2, z2, k1, k2, k3, k4, k5, k6, k7⟩ := elemB_spec h4
      rw [hi] at k1; injection k1 with k1; subst k1
      rw [hz] at k2; injection k2 with k2; subst k2
      simp only [kstep] at hs
      split at hs
      · rename_i l c hx hy
        simp only [Option.some.injEq, Prod.mk.injEq] at hs
        obtain ⟨rfl, rfl, rfl, rfl⟩ := hs
        exact k_mk h hnm hop hu hi hz k3 k4 k5 k7 hc (X1 h2 (fun s hs => V s (by simp [K.slots, hs])) hx).B.v_inv (X1 h3 (fun s hs => V s (by simp [K.slots, hs])) hy).B.v_inv hp.1 hp.2.1 hp.2.2
      · cases hs
    · cases h1
  · -- cp
    rename_i x y T T' x' y'
    simp only [Bool.and_eq_true] at hm
    obtain ⟨⟨⟨h1, h2⟩, h3⟩, h4⟩ := hm
    obtain ⟨e, hu, _⟩ := bytesB_spec h1
    simp only [mtK.szE, hu] at h2
    simp only [kstep] at hs
    split at hs
    · rename_i n len cap s hx hy
      split at hs
      · rename_i e' cap' cs hb
        simp only [Option.some.injEq, Prod.mk.injEq] at hs
        obtain ⟨rfl, rfl, rfl, rfl⟩ := hs
        obtain ⟨hp1, rfl⟩ := hp
        exact k_cp' h hop hu (szB_map h2) (X1 h3 (fun s hs => V s (by simp [K.slots, hs])) hx) (X1 h4 (fun s hs => V s (by simp [K.slots, hs])) hy).B.v_inv hb hp1
      · cases hs
    · cases hs
  · -- fz
    rename_i x e y
    simp only [kstep] at hs
    split at hs
    · rename_i n len cap hx
      split at hs
      · rename_i e' cap' cs hb
        obtain ⟨c, hc, hs⟩ := map_some hs
        simp only [Prod.mk.injEq] at hs
        obtain ⟨rfl, rfl, rfl, rfl⟩ := hs
        obtain ⟨rfl, rfl, hp3⟩ := hp
        exact k_fz h hnm hop (X1 hm (fun s hs => V s (by simp [K.slots, hs])) hx) hb hp3 hc
      · cases hs
    · cases hs
  · -- cb
    rename_i T U x e y
    simp only [Bool.and_eq_true] at hm
    obtain ⟨⟨⟨h1, h2⟩, h3⟩, h4⟩ := hm
    obtain ⟨e', hu, he'⟩ := bytesB_spec h2
    simp only [hu, beq_iff_eq] at h3
    subst h3
    simp only [kstep] at hs
    split at hs
    · rename_i s hx
      simp only [Option.some.injEq, Prod.mk.injEq] at hs
      obtain ⟨rfl, rfl, rfl, rfl⟩ := hs
      exact k_cb h hnm hop (strB_spec h1) hu he' (X1 h4 (fun s hs => V s (by simp [K.slots, hs])) hx).B.v_inv hp
    · cases hs
  · -- rg
    rename_i T x y
    simp only [Bool.and_eq_true] at hm
    simp only [kstep] at hs
    split at hs
    · rename_i s hx
      simp only [Option.some.injEq, Prod.mk.injEq] at hs
      obtain ⟨rfl, rfl, rfl, rfl⟩ := hs
      exact k_rg h hnm hop (strB_spec hm.1) (X1 hm.2 (fun s hs => V s (by simp [K.slots, hs])) hx).B.v_inv
    · cases hs
  · -- nx
    rename_i x y
    simp only [kstep] at hs
    split at hs
    · rename_i n hx
      split at hs
      · rename_i s p hb
        have hk := k_nx (P := P) (nm := nm) h hop (X1 hm (fun s hs => V s (by simp [K.slots, hs])) hx) hb
        split at hs
        · rename_i hlt
          simp only [Option.some.injEq, Prod.mk.injEq] at hs
          obtain ⟨rfl, rfl, rfl, rfl⟩ := hs
          exact hk.1 hlt
        · rename_i hlt
          simp only [Option.some.injEq, Prod.mk.injEq] at hs
          obtain ⟨rfl, rfl, rfl, rfl⟩ := hs
          exact hk.2 hlt
      · cases hs
    · cases hs
  · cases hm
/-! ### calls that are handed a row -/
theorem SimO.calledT (h : SimO M N S fr own w) {b : Option Nat} (hb : ∀ g, b = some g → ∃ t, own g = some (.tk t) ∧ S.tk t = none ∧ M.im g = none) {pc' : Nat → Nat → Option Value} {w' : World} (k : LeftT b M.pc pc' w w') :
    M.Le { M with pc := pc' } ∧ SimO { M with pc := pc' } N S fr own w' := by
  refine ⟨⟨k.mono, fun _ _ e => e, rfl, rfl, fun g hg i => k.keep g (h.fro g hg).1 (fun e => ?_) i, rfl, rfl⟩, ⟨⟨k.base.1.trans h.base.1, k.base.2.1.trans h.base.2.1, k.base.2.2.trans h.base.2.2⟩, k.holds, fun g q e => ?_, fun g hg => ⟨Nat.lt_of_lt_of_le (h.fro g hg).1 k.size, (h.fro g hg).2⟩, fun g q e => Nat.lt_of_lt_of_le (h.lt g q e) k.size, fun n b' e => ?_, fun t q e => ?_, h.fresh, fun q hq => k.mono _ _ _ (h.glob q hq), h.nb, Nat.le_trans h.big k.size⟩⟩
  · obtain ⟨t, h1, _⟩ := hb g e
    rw [(h.fro g hg).2] at h1; cases h1
  · rw [k.heap g (h.im_lt e) (fun e' => by
      obtain ⟨t, _, _, h1⟩ := hb g e'
      have e2 : M.im g = some q := e
      rw [h1] at e2; cases e2)]
    exact h.im g q e
  · obtain ⟨g, q, h1, h2, h3, h4, h5, h6⟩ := h.box n b' e
    have hlt := h.lt g _ h2
    have hne : b ≠ some g := fun e' => by obtain ⟨t, h7, _⟩ := hb g e'; rw [h2] at h7; cases h7
    exact ⟨g, q, h1, h2, by rw [k.heap g hlt hne]; exact h3, h4.mono k.mono (Nms.Le.refl _), h5, fun i => by show pc' g i = none; rw [k.keep g hlt hne]; exact h6 i⟩
  · obtain ⟨v, h1, h2⟩ := h.tok t q e
    refine ⟨v, h1, ?_⟩
    rcases h2 with h2 | ⟨g, len, cap, cur, h2, h3, h4, h5, h6, h7, h8, h9⟩
    · exact .inl h2
    · have hlt := h.lt g _ h3
      have hne : b ≠ some g := fun e' => by
        obtain ⟨t', k1, k2, _⟩ := hb g e'
        rw [h3] at k1; simp only [Option.some.injEq, Ow.tk.injEq] at k1; subst k1
        rw [k2] at e; cases e
      exact .inr ⟨g, len, cap, cur, h2, h3, by rw [k.heap g hlt hne]; exact h4, h5, h6, h7, h8, fun i hi => by show pc' g i = none; rw [k.keep g hlt hne]; exact h9 i hi⟩
theorem Rep.retag {pc : Nat → Nat → Option Value} {N N' : Nms} {v : Value} {sz : Nat} {xs : List (List D)} (h : Rep pc N v (.sl .no sz xs)) {nm : Nat} (hv : N'.tk nm = some v) : Rep pc N' v (.sl (.tk nm) sz xs) := by
  cases h with
  | sl _ A cap t sz xs g off u hA hl hc hm hp hr ht => exact .sl _ A cap _ sz xs g off u hA hl hc hm hp hr hv
theorem SimO.newRowTok (h : SimO M N S fr own w) (hnm : fr nm) {e : TypeId} {sz : Nat} {v : Value} {b : Option Nat} {ys : List (List D)} (ho : OwnRow M.pc w e sz v b) (hc : ∀ g, b = some g → (own g = none ∨ ∃ t, own g = some (.tk t) ∧ S.tk t = none) ∧ M.im g = none ∧ ¬ M.fro g) (hr : Rep M.pc Nms.nil v (.sl .no sz ys)) :
    ∃ N' own', N.Le N' ∧ SimO M N' { S with tk := upd S.tk nm (some (e, sz)) } (fun n => fr n ∧ n ≠ nm) own' w ∧ Rep M.pc N' v (.sl (.tk nm) sz ys) := by
  rcases ho with ⟨rfl, Ad, n, rfl⟩ | ⟨g, len, cap, cur, rfl, rfl, h1, h2, h3, h4, h5⟩
  · exact ⟨_, _, Nms.le_tok (h.fresh nm hnm).2, h.newTokFull hnm (A := Ad) (n := n) (e, sz), hr.retag (upd_same _ _ _)⟩
  · obtain ⟨k1, k2, k3⟩ := hc g rfl
    refine ⟨_, _, Nms.le_tok (h.fresh nm hnm).2, h.newTok hnm (g := g) (len := len) (cap := cap) h1 h2 h3 h4 k2 h5 k3 (fun n hn => ?_) (fun t ht => ?_), hr.retag (upd_same _ _ _)⟩
    · rcases k1 with k1 | ⟨t, k1, _⟩ <;> rw [k1] at hn <;> cases hn
    · rcases k1 with k1 | ⟨t', k1, k4⟩
      · rw [k1] at ht; cases ht
      · rw [k1] at ht; simp only [Option.some.injEq, Ow.tk.injEq] at ht; subst ht; exact k4
end
end Go.Proofs.YtbhingdlclfipaaDoor.Ab
