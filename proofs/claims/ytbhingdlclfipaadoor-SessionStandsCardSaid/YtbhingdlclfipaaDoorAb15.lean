/- An abstract calculus over pure data, part 15: the theorem on regions. -/
import Derived.Test.YtbhingdlclfipaaDoorAb14
namespace Go.Proofs.YtbhingdlclfipaaDoor.Ab
open Go Go.RowKit
set_option linter.unusedVariables false
set_option linter.unusedSimpArgs false

/-- What each operation waits for is told. -/
def afs : List Oper → List R → Bool
  | [], [] => true
  | o :: os, r :: rs => r.af == (o.after.toList.filter (Region.binds .any)).map (·.on) && afs os rs
  | _, _ => false
theorem afs_spec : ∀ {os : List Oper} {rs : List R}, afs os rs = true → ∀ (i : Nat) (o : Oper), os[i]? = some o → ∃ r, rs[i]? = some r ∧ r.af = (o.after.toList.filter (Region.binds .any)).map (·.on)
  | [], _, _, i, o, h => by simp at h
  | _ :: _, [], h, _, _, _ => by simp [afs] at h
  | x :: os, r :: rs, h, i, o, ho => by
    simp only [afs, Bool.and_eq_true, beq_iff_eq] at h
    cases i with
    | zero => simp only [List.getElem?_cons_zero, Option.some.injEq] at ho; subst ho; exact ⟨r, rfl, h.1⟩
    | succ i => simpa using afs_spec h.2 i o (by simpa using ho)
theorem mtRs_spec {P : Program} {ops : Array Oper} {n : Nat} : ∀ {os : List Oper} {rs : List R}, mtRs P ops n os rs = true → os.length = rs.length ∧ ∀ (i : Nat) (o : Oper), os[i]? = some o → ∃ r, rs[i]? = some r ∧ mtR P ops n o r = true
  | [], [], _ => ⟨rfl, fun i o h => by simp at h⟩
  | [], _ :: _, h => by simp [mtRs] at h
  | _ :: _, [], h => by simp [mtRs] at h
  | x :: os, r :: rs, h => by
    simp only [mtRs, Bool.and_eq_true] at h
    obtain ⟨h1, h2⟩ := mtRs_spec h.2
    refine ⟨by simp [h1], fun i o ho => ?_⟩
    cases i with
    | zero => simp only [List.getElem?_cons_zero, Option.some.injEq] at ho; subst ho; exact ⟨r, rfl, h.1⟩
    | succ i => simpa using h2 i o (by simpa using ho)

section
variable {P : Program} {ops : Array Oper} {rs : List R} {M M0 : Gh} {N : Nms} {S : St} {own : Nat → Option Ow} {w : World} {n base : Nat} {a : Act} {T : Nat → St} {L : Nat → Nat} {sp : Sp} {Q : Exit → Act → World → Prop}

structure Inv (M0 : Gh) (T : Nat → St) (base : Nat) (rs : List R) (n : Nat) (l : Nat → Bool) (a : Act) (w : World) (M : Gh) (N : Nms) (own : Nat → Option Ow) : Prop where
  le : M0.Le M
  down : Down rs l
  lt : ∀ i, l i = true → i < rs.length
  sim : SimO M N (SX T base rs l) (fun k => base ≤ k ∧ l (k - base) = false) own w
  slot : ∀ s, SlotOK M.pc N (T (lw rs l s)).env (T (lw rs l s)).va a.tmps s
  size : n ≤ a.tmps.size
  defers : a.defers = []

theorem below {l : Nat → Bool} (hd : Down rs l) : ∀ i, l i = true → ∀ k, ((masks rs []).getD i 0).testBit k = true → l k = true :=
  masks_good rs [] (fun i r hr hl => hd i r hr (by simpa using hl)) (fun i hi k hk => by simp at hk)
theorem below_ready {l : Nat → Bool} (hd : Down rs l) {i : Nat} {r : R} (hr : rs[i]? = some r) (haf : ∀ k ∈ r.af, l k = true) {k : Nat} (hk : ((masks rs []).getD i 0).testBit k = true) : l k = true := by
  rcases masks_bit rs [] i r k hr (by simpa using hk) with h | ⟨q, hq, h⟩
  · exact haf k h
  · exact below hd q (haf q hq) k h

theorem getD_set {l : Array Bool} {i k : Nat} (hi : i < l.size) : (l.setIfInBounds i true).getD k false = if k = i then true else l.getD k false := by
  simp only [Array.getD_eq_getD_getElem?, Array.getElem?_setIfInBounds]
  by_cases h : i = k
  · subst h; simp [hi]
  · have : ¬ k = i := fun e => h e.symm
    simp [h, this]

theorem any_sound (hsp : SpOK P M0.gl sp) (hm : mtRs P ops n ops.toList rs = true) (haf : afs ops.toList rs = true) (hord : Ordered rs (masks rs [])) (hS : Snaps sp base rs T L)
    (hQ : ∀ a' w' M', M0.Le M' → (∃ N own, SimO M' N (T rs.length) (fun k => base + rs.length ≤ k) own w' ∧ EnvRep M'.pc N (T rs.length).env (T rs.length).va a'.tmps) → n ≤ a'.tmps.size → a'.defers = [] → Q .normal a' w') :
    ∀ (fuel : Nat) (listed : Array Bool) (a : Act) (w : World) (M : Gh) (N : Nms) (own : Nat → Option Ow), listed.size = rs.length → listed.toList.count false ≤ fuel → Inv M0 T base rs n (fun i => listed.getD i false) a w M N own → wpAny P .any ops Q fuel listed a w := by
  obtain ⟨hlen, hmt⟩ := mtRs_spec hm
  have hsize : ops.size = rs.length := by simpa using hlen
  have hmt' : ∀ (i : Nat) (o : Oper), ops[i]? = some o → ∃ r, rs[i]? = some r ∧ mtR P ops n o r = true ∧ r.af = (o.after.toList.filter (Region.binds .any)).map (·.on) := by
    intro i o ho
    have ho' : ops.toList[i]? = some o := by rw [Array.getElem?_toList]; exact ho
    obtain ⟨r, h1, h2⟩ := hmt i o ho'
    obtain ⟨r', h3, h4⟩ := afs_spec haf i o ho'
    rw [h1] at h3; injection h3 with h3; subst h3
    exact ⟨r, h1, h2, h4⟩
  -- whatever is ready
  have hready : ∀ (listed : Array Bool), listed.size = rs.length → ∀ i, i ∈ Region.ready .any ops listed ↔ (∃ o r, ops[i]? = some o ∧ rs[i]? = some r ∧ mtR P ops n o r = true ∧ listed.getD i false = false ∧ ∀ k ∈ r.af, listed.getD k false = true) := by
    intro listed hls i
    simp only [Region.ready, List.mem_filter, List.mem_range, Bool.and_eq_true, Bool.not_eq_true']
    constructor
    · rintro ⟨hi, h1, h2⟩
      have ho := Array.getElem?_eq_getElem hi
      obtain ⟨r, hr, h3, h4⟩ := hmt' i _ ho
      rw [ho] at h2
      simp only [Option.map_some, Option.getD_some, Array.all_eq_true_iff_forall_mem, Bool.or_eq_true, Bool.not_eq_true'] at h2
      refine ⟨_, r, ho, hr, h3, ?_, fun k hk => ?_⟩
      · simp only [Array.getD_eq_getD_getElem?, Array.getElem?_eq_getElem (show i < listed.size by omega), Option.getD_some] at h1 ⊢
        exact h1
      · rw [h4] at hk
        obtain ⟨e, he, rfl⟩ := List.mem_map.1 hk
        obtain ⟨he1, he2⟩ := List.mem_filter.1 he
        rcases h2 e (Array.mem_toList_iff.1 he1) with h | h
        · rw [he2] at h; cases h
        · exact h
    · rintro ⟨o, r, ho, hr, h3, h4, h5⟩
      have hi : i < ops.size := (Array.getElem?_eq_some_iff.1 ho).1
      obtain ⟨r', hr', _, h6⟩ := hmt' i o ho
      rw [hr] at hr'; injection hr' with hr'; subst hr'
      refine ⟨hi, ?_, ?_⟩
      · simp only [Array.getD_eq_getD_getElem?, Array.getElem?_eq_getElem (show i < listed.size by omega), Option.getD_some] at h4 ⊢
        exact h4
      · rw [ho]
        simp only [Option.map_some, Option.getD_some, Array.all_eq_true_iff_forall_mem, Bool.or_eq_true, Bool.not_eq_true']
        intro e he
        by_cases hb : Region.binds .any e = true
        · exact .inr (h5 e.on (by rw [h6]; exact List.mem_map.2 ⟨e, List.mem_filter.2 ⟨Array.mem_toList_iff.2 he, hb⟩, rfl⟩))
        · exact .inl (by simpa using hb)
  -- nothing is ready: all is listed
  have hall : ∀ (listed : Array Bool), listed.size = rs.length → Region.ready .any ops listed = [] → ∀ i, i < rs.length → listed.getD i false = true := by
    intro listed hls hnil i
    induction i using Nat.strongRecOn with
    | _ i ih =>
      intro hi
      cases hl : listed.getD i false with
      | true => rfl
      | false =>
        have ho := Array.getElem?_eq_getElem (show i < ops.size by omega)
        obtain ⟨r, hr, h3, _⟩ := hmt' i _ ho
        have : i ∈ Region.ready .any ops listed := (hready listed hls i).2 ⟨_, r, ho, hr, h3, hl, fun k hk => ih k (hord.af i r hr k hk) (by have := hord.af i r hr k hk; omega)⟩
        rw [hnil] at this; cases this
  -- the end
  have hend : ∀ (listed : Array Bool) (a : Act) (w : World) (M : Gh) (N : Nms) (own : Nat → Option Ow), listed.size = rs.length → Inv M0 T base rs n (fun i => listed.getD i false) a w M N own → (∀ i, i < rs.length → listed.getD i false = true) → Q .normal a w := by
    intro listed a w M N own hls hI hal
    have hbl : bl rs (fun i => listed.getD i false) ≤ rs.length := lastL_le _ _
    have hnb : ∀ k, bl rs (fun i => listed.getD i false) ≤ k → k < rs.length → barOf rs k = false := fun k hk hk' => by
      have := lastL_none _ _ k hk hk'
      simpa [hal k hk'] using this
    have hlb : ∀ n, bl rs (fun i => listed.getD i false) ≤ lwb (barOf rs) (Wr rs T) rs.length (fun i => listed.getD i false) n := bl_le
    have hjn : ∀ n k, lwb (barOf rs) (Wr rs T) rs.length (fun i => listed.getD i false) n ≤ k → k < rs.length → barOf rs k = false ∧ Wr rs T k n = false := fun n k hk hk' => by
      have := lastL_none _ _ k hk hk'
      simpa [hal k hk'] using this
    have hnb' : ∀ k, bl rs (fun i => listed.getD i false) ≤ k → k < rs.length → barOf rs k = false ∧ ∀ n, Wr rs T k n = true → n < base + bl rs (fun i => listed.getD i false) := fun k hk hk' => ⟨hnb k hk hk', fun n hW => by
      have h1 := (hS.wr_lt k n (hnb k hk hk') hW).1
      have h2 := hS.lim_le k (by omega) (bl rs (fun i => listed.getD i false)) hk (fun q hq hq' => hnb q hq (by omega))
      omega⟩
    refine hQ a w M hI.le ⟨N, own, (hI.sim.sub (fun k b hb => ?_) (fun k q hq => ?_)).later fun k hk => ⟨by omega, ?_⟩, fun s b hb => ?_⟩ hI.size hI.defers
    · exact sx_all (F := fun i => (T i).bx) (m := rs.length) (bar := barOf rs) (W := Wr rs T) (fun n => ⟨hlb n, lastL_le _ _⟩) hjn (Nat.le_refl _) (fun k hk => .inl (hal k hk)) hbl hnb' (fun k hk hk' x hx => (hS.bx_group k hk hk' x hx).1) (fun x hx => (hS.none _ (Nat.le_refl _) x hx).1) hb
    · exact sx_all (F := fun i => (T i).tk) (m := rs.length) (bar := barOf rs) (W := fun _ _ => false) (fun n => ⟨Nat.le_refl _, hbl⟩) (fun n k hk hk' => ⟨hnb k hk hk', rfl⟩) (Nat.le_refl _) (fun k hk => .inl (hal k hk)) hbl (fun k hk hk' => ⟨hnb k hk hk', fun n h => by cases h⟩) (fun k hk hk' x hx _ => (hS.bx_group k hk hk' x hx).2) (fun x hx => (hS.none _ (Nat.le_refl _) x hx).2) hq
    · show listed.getD (k - base) false = false
      simp only [Array.getD_eq_getD_getElem?]
      rw [Array.getElem?_eq_none (by omega)]
      rfl
    · have hst := hS.env_still s rs.length (lw rs (fun i => listed.getD i false) s) (lastL_le _ _) (Nat.le_refl _) (fun k hk hk' hd => by
        have := lastL_none _ _ k hk hk'
        simp [hal k hk', hd] at this)
      have := hI.slot s b (by rw [← hst.1]; exact hb)
      rw [← hst.2] at this
      exact this
  intro fuel
  induction fuel with
  | zero =>
    intro listed a w M N own hls hc hI
    have hal : ∀ i, i < rs.length → listed.getD i false = true := by
      intro i hi
      have hz : listed.toList.count false = 0 := by omega
      have hnm := List.count_eq_zero.1 hz
      cases hl : listed.getD i false with
      | true => rfl
      | false =>
        exfalso
        apply hnm
        simp only [Array.getD_eq_getD_getElem?, Array.getElem?_eq_getElem (show i < listed.size by omega), Option.getD_some] at hl
        rw [← hl]
        exact Array.mem_toList_iff.2 (Array.getElem_mem _)
    refine ⟨?_, hend listed a w M N own hls hI hal⟩
    cases hr : Region.ready .any ops listed with
    | nil => rfl
    | cons i l =>
      exfalso
      obtain ⟨o, r, ho, hr', _, hl, _⟩ := (hready listed hls i).1 (by rw [hr]; simp)
      rw [hal i (List.getElem?_eq_some_iff.1 hr').1] at hl; cases hl
  | succ fuel ih =>
    intro listed a w M N own hls hc hI
    refine ⟨fun hnil => hend listed a w M N own hls hI (hall listed hls hnil), fun i hi => ?_⟩
    obtain ⟨o, r, ho, hr, hmtr, hl, hafi⟩ := (hready listed hls i).1 hi
    have hi' : i < rs.length := (List.getElem?_eq_some_iff.1 hr).1
    obtain ⟨q, hstep, hq, hLi⟩ := hS.step i r hr
    have hdownA : ∀ k, ((masks rs []).getD i 0).testBit k = true → listed.getD k false = true := fun k hk => below_ready hI.down hr hafi hk
    have hdownB : ∀ k, listed.getD k false = true → ((masks rs []).getD k 0).testBit i = true → False := fun k hk hb => by
      have := below hI.down k hk i hb
      rw [this] at hl; cases hl
    -- writers of a slot that it has a part in
    have hwr : ∀ k s, k < rs.length → k ≠ i → dstOf rs k = some s → (s ∈ r.looks ∨ r.dst = some s) → (k < i → listed.getD k false = true) ∧ (i < k → listed.getD k false = false) := by
      intro k s hk hne hd hs
      have hb := hord.slot i r hr k s hk hne hd hs
      refine ⟨fun hlt => ?_, fun hgt => ?_⟩
      · rw [Nat.max_eq_left (by omega), Nat.min_eq_right (by omega)] at hb
        exact hdownA k hb
      · rw [Nat.max_eq_right (by omega), Nat.min_eq_left (by omega)] at hb
        cases hlk : listed.getD k false with
        | false => rfl
        | true => exact (hdownB k hlk hb).elim
    have hslot : ∀ s ∈ r.looks, SlotOK M.pc N (T i).env (T i).va a.tmps s := by
      intro s hs
      have hI' := hI.slot s
      have hle : lw rs (fun i => listed.getD i false) s ≤ i := by
        rcases Nat.lt_or_ge i (lw rs (fun i => listed.getD i false) s) with h | h
        · exfalso
          obtain ⟨k, hk⟩ : ∃ k, lw rs (fun i => listed.getD i false) s = k + 1 := ⟨lw rs (fun i => listed.getD i false) s - 1, by omega⟩
          obtain ⟨h1, h2⟩ := lastL_some _ _ k hk
          simp only [Bool.and_eq_true, beq_iff_eq] at h1
          rcases Nat.lt_or_ge i k with h' | h'
          · have := (hwr k s h2 (by omega) h1.2 (.inl hs)).2 h'
            rw [this] at h1; cases h1.1
          · have : k = i := by omega
            subst this
            rw [hl] at h1; cases h1.1
        · exact h
      have hst := hS.env_still s i _ hle (by omega) (fun k hk hk' hd => by
        have h1 := lastL_none _ _ k hk (show k < rs.length by omega)
        have h2 := (hwr k s (by omega) (by omega) hd (.inl hs)).1 hk'
        simp only at h1
        rw [h2, hd] at h1
        simp at h1)
      intro b hb
      have := hI' b (by rw [← hst.1]; exact hb)
      rw [← hst.2] at this
      exact this
    have hgs : ∀ k, (listed.setIfInBounds i true).getD k false = if k = i then true else listed.getD k false := fun k => getD_set (by omega)
    have hdown' : Down rs (fun k => (listed.setIfInBounds i true).getD k false) := by
      intro k r' hr' hlk x hx
      show (listed.setIfInBounds i true).getD x false = true
      simp only [hgs] at hlk ⊢
      by_cases hxi : x = i
      · simp [hxi]
      · rw [if_neg hxi]
        by_cases hki : k = i
        · subst hki
          rw [hr] at hr'; injection hr' with hr'; subst hr'
          exact hafi x hx
        · rw [if_neg hki] at hlk
          exact hI.down k r' hr' hlk x hx
    have hlt' : ∀ k, (listed.setIfInBounds i true).getD k false = true → k < rs.length := fun k hk => by
      rw [hgs] at hk
      split at hk
      · omega
      · exact hI.lt k hk
    have hcount : (listed.setIfInBounds i true).toList.count false ≤ fuel := by
      have hil : i < listed.toList.length := by simp; omega
      have hv : listed.toList[i] = false := by
        simp only [Array.getD_eq_getD_getElem?, Array.getElem?_eq_getElem (show i < listed.size by omega), Option.getD_some] at hl
        simpa using hl
      rw [Array.toList_setIfInBounds, List.count_set hil]
      simp only [hv]
      have : 0 < listed.toList.count false := List.count_pos_iff.2 (by rw [← hv]; exact List.getElem_mem hil)
      have e1 : (false == false) = true := rfl
      have e2 : (true == false) = false := rfl
      rw [e1, e2]
      simp only [if_true, Bool.false_eq_true, if_false]
      omega
    -- slots behind it
    have hslot' : ∀ (a' : Act) (M' : Gh) (N' : Nms), M.Le M' → N.Le N' → (∀ d, r.dst = some d → SlotOK M'.pc N' (T (i + 1)).env (T (i + 1)).va a'.tmps d) → (∀ t, r.dst ≠ some t → a'.tmps[t]? = a.tmps[t]?) →
        ∀ s, SlotOK M'.pc N' (T (lw rs (fun k => (listed.setIfInBounds i true).getD k false) s)).env (T (lw rs (fun k => (listed.setIfInBounds i true).getD k false) s)).va a'.tmps s := by
      intro a' M' N' h1 h2 h3 h4 s
      by_cases hs : r.dst = some s
      · have hd : dstOf rs i = some s := by simp [dstOf, hr, hs]
        have : lw rs (fun k => (listed.setIfInBounds i true).getD k false) s = i + 1 := by
          refine lastL_eq _ _ i hi' (by simp [hgs, hd]) (fun k hk hk' => ?_)
          by_cases hdk : dstOf rs k = some s
          · have := (hwr k s hk' (by omega) hdk (.inr hs)).2 hk
            have hki : k ≠ i := by omega
            simp [hgs, hki, this]
          · simp [hdk]
        rw [this]
        exact h3 s hs
      · have hd : dstOf rs i ≠ some s := by simpa [dstOf, hr] using hs
        have : lw rs (fun k => (listed.setIfInBounds i true).getD k false) s = lw rs (fun k => listed.getD k false) s := by
          refine lastL_congr _ fun k hk => ?_
          by_cases hki : k = i
          · subst hki
            have hd' : (dstOf rs k == some s) = false := beq_eq_false_iff_ne.2 hd
            simp only [hd', Bool.and_false]
          · simp [hgs, hki]
        rw [this]
        have hI' := (hI.slot s).mono h1.pc h2
        intro b hb
        rw [h4 s hs]
        exact hI' b hb
    have hop : ∀ (S' : St) (lim : Option Nat) , rstep sp lim (T i) (base + i) r = some (q, T (i + 1)) → SimO M N S' (fun k => base ≤ k ∧ listed.getD (k - base) false = false) own w → (∀ k b, touch (T i).env r.op = some k → cutB lim (T i).bx k = some b → S'.bx k = some b) → (∀ k q, cutB lim (T i).tk k = some q → S'.tk k = some q) →
        (∀ e M' N' own' w', SimO M' N' (S'.eff (base + i) e) (fun k => (base ≤ k ∧ listed.getD (k - base) false = false) ∧ k ≠ base + i) own' w' → (T (i + 1)).bx = ((T i).eff (base + i) e).bx → (T (i + 1)).tk = ((T i).eff (base + i) e).tk → (lim.isNone || effInert e) = true → (r.op.isPure = true → e = .nil) → (∀ b c, e.wr = some (b, c) → (∃ c0, cutB lim (T i).bx b = some c0) ∧ isSt r.op = true ∧ touch (T i).env r.op = some b) →
          SimO M' N' (SX T base rs (fun k => (listed.setIfInBounds i true).getD k false)) (fun k => (base ≤ k ∧ listed.getD (k - base) false = false) ∧ k ≠ base + i) own' w') → wpOp P ops Q i (wpAny P .any ops Q fuel (listed.setIfInBounds i true)) a w := by
      intro S' lim hstep hsim hb ht hfin
      have := op_sound (ops := ops) (Q := Q) (by rw [hI.le.gl]; exact hsp) hmtr hI.size hsim (nm := base + i) ⟨by omega, by show listed.getD (base + i - base) false = false; rw [Nat.add_sub_cancel_left]; exact hl⟩ hb ht hslot hstep hq (K := wpAny P .any ops Q fuel (listed.setIfInBounds i true)) (by
        intro a' w' M' N' own' e h1 h2 h3 h4 h5 h6 h6' h6w h7 h8 h9 h10
        refine ih _ a' w' M' N' own' (by simpa using hls) hcount ⟨hI.le.trans h1, hdown', hlt', ?_, hslot' a' M' N' h1 h2 h7 h8, by rw [h9]; exact hI.size, by rw [h10]; exact hI.defers⟩
        refine (hfin e M' N' own' w' h3 h4 h5 h6 h6' h6w).later fun k hk => ?_
        obtain ⟨hk1, hk2⟩ := hk
        have hk2' : (if k - base = i then true else listed.getD (k - base) false) = false := by rw [← hgs]; exact hk2
        split at hk2'
        · cases hk2'
        · exact ⟨⟨hk1, hk2'⟩, by omega⟩)
      unfold wpOp
      rw [ho]
      exact this
    cases hpure : r.op.isPure with
    | true =>
      have hbarOf : barOf rs i = false := by
        cases hb : r.bar with
        | false => simp [barOf, hr, hb]
        | true => have := (hord.bar i r hr hb).1; rw [hpure] at this; cases this
      have hpo : pureOf rs i = true := by simp [pureOf, hr, hpure]
      obtain ⟨hp0, hpb, hpt⟩ := rstep_pure hpure hstep
      obtain ⟨hn1, hn2⟩ := hS.pure_none i hi' hpo
      have hbl' : bl rs (fun k => (listed.setIfInBounds i true).getD k false) = bl rs (fun k => listed.getD k false) := by
        refine lastL_congr _ fun k hk => ?_
        by_cases hki : k = i
        · subst hki; simp [hbarOf]
        · simp [hgs, hki]
      have hWi : ∀ n, Wr rs T i n = false := fun n => by
        simp only [Wr, hr]
        cases hop : r.op <;> simp [I.isPure, hop] at hpure <;> simp [isSt]
      have hlw' : ∀ n, lwb (barOf rs) (Wr rs T) rs.length (fun k => (listed.setIfInBounds i true).getD k false) n = lwb (barOf rs) (Wr rs T) rs.length (fun k => listed.getD k false) n := fun n => by
        refine lastL_congr _ fun k hk => ?_
        by_cases hki : k = i
        · subst hki; simp [hbarOf, hWi]
        · simp [hgs, hki]
      refine hop (SX T base rs (fun k => listed.getD k false)) (some 0) hp0 hI.sim (fun k b _ hb => by simp [cutB] at hb) (fun k b hb => by simp [cutB] at hb) ?_
      intro e M' N' own' w' h3 h4 h5 h6 h6' _
      have he := h6' hpure
      subst he
      have hsx : ∀ {α : Type} (F : Nat → Nat → Option α) (j j' : Nat → Nat), (∀ n, j n = j' n) → F (i + 1) (base + i) = none → ∀ (k : Nat) (c : α), sx F base (bl rs (fun k => (listed.setIfInBounds i true).getD k false)) j (fun k => (listed.setIfInBounds i true).getD k false) k = some c → sx F base (bl rs (fun k => listed.getD k false)) j' (fun k => listed.getD k false) k = some c := by
        intro α F j j' hjj hF k c h
        rw [hbl'] at h
        unfold sx at h ⊢
        split at h
        · rename_i hn; rw [if_pos hn, ← hjj k]; exact h
        · rename_i hn
          rw [if_neg hn]
          split at h
          · rename_i hlk
            have hlk : (listed.setIfInBounds i true).getD (k - base) false = true := hlk
            rw [hgs] at hlk
            split at hlk
            · rename_i hki
              rw [hki, show k = base + i by omega, hF] at h; cases h
            · rw [if_pos hlk]; exact h
          · cases h
      exact h3.sub (fun k b hb => hsx (fun i => (T i).bx) _ _ hlw' hn1 k b hb) (fun k b hb => hsx (fun i => (T i).tk) _ _ (fun _ => hbl') hn2 k b hb)
    | false =>
    have hpo : pureOf rs i = false := by simp [pureOf, hr, hpure]
    cases hbar : r.bar with
    | true =>
      have hbarOf : barOf rs i = true := by simp [barOf, hr, hbar]
      have hbef : ∀ k, k < i → pureOf rs k = false → listed.getD k false = true := fun k hk hpk => by
        have hb := (hord.bar i r hr hbar).2 k (by omega) (by omega) hpk
        rw [Nat.max_eq_left (by omega), Nat.min_eq_right (by omega)] at hb
        exact hdownA k hb
      have haft : ∀ k, i < k → pureOf rs k = false → listed.getD k false = false := fun k hk hpk => by
        cases hlk : listed.getD k false with
        | false => rfl
        | true =>
          have hb := (hord.bar i r hr hbar).2 k (hI.lt k hlk) (by omega) hpk
          rw [Nat.max_eq_right (by omega), Nat.min_eq_left (by omega)] at hb
          exact (hdownB k hlk hb).elim
      have hbp : ∀ k, barOf rs k = true → pureOf rs k = false := fun k hk => by
        cases hrk : rs[k]? with
        | none => simp [barOf, hrk] at hk
        | some rk =>
          have hbk : rk.bar = true := by simpa [barOf, hrk] using hk
          simpa [pureOf, hrk] using (hord.bar k rk hrk hbk).1
      have hbl : bl rs (fun k => listed.getD k false) ≤ i := by
        rcases Nat.lt_or_ge i (bl rs (fun k => listed.getD k false)) with h | h
        · exfalso
          obtain ⟨k, hk⟩ : ∃ k, bl rs (fun k => listed.getD k false) = k + 1 := ⟨bl rs (fun k => listed.getD k false) - 1, by omega⟩
          obtain ⟨h1, _⟩ := lastL_some _ _ k hk
          simp only [Bool.and_eq_true] at h1
          rcases Nat.lt_or_ge i k with h' | h'
          · rw [haft k h' (hbp k h1.2)] at h1; cases h1.1
          · have : k = i := by omega
            subst this
            rw [hl] at h1; cases h1.1
        · exact h
      have hnb : ∀ k, bl rs (fun k => listed.getD k false) ≤ k → k < i → barOf rs k = false := fun k hk hk' => by
        have := lastL_none _ _ k hk (show k < rs.length by omega)
        cases hb : barOf rs k with
        | false => rfl
        | true => simp [hbef k hk' (hbp k hb), hb] at this
      have hbl' : bl rs (fun k => (listed.setIfInBounds i true).getD k false) = i + 1 := lastL_eq _ _ i hi' (by simp [hgs, hbarOf]) (fun k hk hk' => by
        have : k ≠ i := by omega
        cases hb : barOf rs k with
        | false => simp
        | true => simp [hgs, this, haft k hk (hbp k hb)])
      have hWp : ∀ k n, Wr rs T k n = true → pureOf rs k = false := fun k n hW => by
        cases hrk : rs[k]? with
        | none => simp [Wr, hrk] at hW
        | some rk =>
          simp only [Wr, hrk, Bool.and_eq_true] at hW
          have := hW.1
          simp only [pureOf, hrk]
          cases hop : rk.op <;> simp [isSt, hop] at this
          rfl
      have hlw' : ∀ n, lwb (barOf rs) (Wr rs T) rs.length (fun k => (listed.setIfInBounds i true).getD k false) n = i + 1 := fun n => lastL_eq _ _ i hi' (by simp [hgs, hbarOf]) (fun k hk hk' => by
        have hne : k ≠ i := by omega
        cases hb : barOf rs k with
        | true => simp [hgs, hne, haft k hk (hbp k hb)]
        | false =>
          cases hW : Wr rs T k n with
          | false => simp
          | true => simp [hgs, hne, haft k hk (hWp k n hW)])
      have hle : ∀ n, lwb (barOf rs) (Wr rs T) rs.length (fun k => listed.getD k false) n ≤ i := fun n => by
        rcases Nat.lt_or_ge i (lwb (barOf rs) (Wr rs T) rs.length (fun k => listed.getD k false) n) with h | h
        · exfalso
          obtain ⟨k, hk⟩ : ∃ k, lwb (barOf rs) (Wr rs T) rs.length (fun k => listed.getD k false) n = k + 1 := ⟨lwb (barOf rs) (Wr rs T) rs.length (fun k => listed.getD k false) n - 1, by omega⟩
          obtain ⟨h1, _⟩ := lastL_some _ _ k hk
          simp only [Bool.and_eq_true, Bool.or_eq_true] at h1
          have hpk : pureOf rs k = false := by
            rcases h1.2 with h2 | h2
            · exact hbp k h2
            · exact hWp k n h2
          rcases Nat.lt_or_ge i k with h' | h'
          · rw [haft k h' hpk] at h1; cases h1.1
          · have : k = i := by omega
            subst this
            rw [hl] at h1; cases h1.1
        · exact h
      have hjn : ∀ n k, lwb (barOf rs) (Wr rs T) rs.length (fun k => listed.getD k false) n ≤ k → k < i → barOf rs k = false ∧ Wr rs T k n = false := fun n k hk hk' => by
        have h1 := lastL_none _ _ k hk (show k < rs.length by omega)
        simp only [Bool.and_eq_false_iff, Bool.or_eq_false_iff] at h1
        rcases h1 with h1 | h1
        · refine ⟨?_, ?_⟩
          · cases hb : barOf rs k with
            | false => rfl
            | true => rw [hbef k hk' (hbp k hb)] at h1; cases h1
          · cases hW : Wr rs T k n with
            | false => rfl
            | true => rw [hbef k hk' (hWp k n hW)] at h1; cases h1
        · exact h1
      have hnb' : ∀ k, bl rs (fun k => listed.getD k false) ≤ k → k < i → barOf rs k = false ∧ ∀ n, Wr rs T k n = true → n < base + bl rs (fun k => listed.getD k false) := fun k hk hk' => ⟨hnb k hk hk', fun n hW => by
        have h1 := (hS.wr_lt k n (hnb k hk hk') hW).1
        have h2 := hS.lim_le k (by omega) (bl rs (fun k => listed.getD k false)) hk (fun q hq hq' => hnb q hq (by omega))
        omega⟩
      rw [hbar] at hstep
      refine hop (T i) none hstep (hI.sim.sub (fun k b hb => ?_) (fun k b hb => ?_)) (fun k b _ hb => cutB_le hb) (fun k b hb => cutB_le hb) ?_
      · exact sx_all (F := fun i => (T i).bx) (m := rs.length) (bar := barOf rs) (W := Wr rs T) (fun n => ⟨bl_le n, hle n⟩) hjn (by omega) (fun k hk => by cases hpk : pureOf rs k with | false => exact .inl (hbef k hk hpk) | true => exact .inr (hS.pure_none k (by omega) hpk).1) hbl hnb' (fun k hk hk' x hx => (hS.bx_group k hk hk' x hx).1) (fun x hx => (hS.none i (by omega) x hx).1) hb
      · exact sx_all (F := fun i => (T i).tk) (m := rs.length) (bar := barOf rs) (W := fun _ _ => false) (fun n => ⟨Nat.le_refl _, hbl⟩) (fun n k hk hk' => ⟨hnb k hk hk', rfl⟩) (by omega) (fun k hk => by cases hpk : pureOf rs k with | false => exact .inl (hbef k hk hpk) | true => exact .inr (hS.pure_none k (by omega) hpk).2) hbl (fun k hk hk' => ⟨hnb k hk hk', fun n h => by cases h⟩) (fun k hk hk' x hx _ => (hS.bx_group k hk hk' x hx).2) (fun x hx => (hS.none i (by omega) x hx).2) hb
      · intro e M' N' own' w' h3 h4 h5 h6 _ _
        have hsx : ∀ {α : Type} (F : Nat → Nat → Option α) (j : Nat → Nat), (∀ n, j n = i + 1) → (∀ k, k < rs.length → pureOf rs k = true → F (k + 1) (base + k) = none) → ∀ (k : Nat) (c : α), sx F base (bl rs (fun k => (listed.setIfInBounds i true).getD k false)) j (fun k => (listed.setIfInBounds i true).getD k false) k = some c → F (i + 1) k = some c := by
          intro α F j hj hFp k c h
          rw [hbl'] at h
          unfold sx at h
          split at h
          · rw [hj k] at h; exact h
          · rename_i hn
            split at h
            · rename_i hlk
              exfalso
              have hlk : (listed.setIfInBounds i true).getD (k - base) false = true := hlk
              rw [hgs] at hlk
              split at hlk
              · omega
              · cases hpk : pureOf rs (k - base) with
                | true =>
                  have := hFp (k - base) (hI.lt _ hlk) hpk
                  rw [show base + (k - base) = k by omega] at this
                  rw [this] at h; cases h
                | false => rw [haft _ (by omega) hpk] at hlk; cases hlk
            · cases h
        refine h3.sub (fun k b hb => ?_) (fun k b hb => ?_)
        · rw [← h4]; exact hsx (fun i => (T i).bx) _ hlw' (fun k hk hpk => (hS.pure_none k hk hpk).1) k b hb
        · rw [← h5]; exact hsx (fun i => (T i).tk) _ (fun _ => hbl') (fun k hk hpk => (hS.pure_none k hk hpk).2) k b hb
    | false =>
      have hbarOf : barOf rs i = false := by simp [barOf, hr, hbar]
      obtain ⟨z, hz1, hz2, hz3, hz4⟩ := hS.lim i (by omega)
      have hbz : bl rs (fun k => listed.getD k false) = z := by
        have hlow : ∀ k, k < rs.length → barOf rs k = true → k ≠ i → (k < i → listed.getD k false = true) ∧ (i < k → listed.getD k false = false) := by
          intro k hk hb hne
          have hrk := List.getElem?_eq_getElem hk
          have hbk : rs[k].bar = true := by simpa [barOf, hrk] using hb
          have hb := (hord.bar k _ hrk hbk).2 i hi' (by omega) hpo
          refine ⟨fun hlt => ?_, fun hgt => ?_⟩
          · rw [Nat.max_eq_right (by omega), Nat.min_eq_left (by omega)] at hb
            exact hdownA k hb
          · rw [Nat.max_eq_left (by omega), Nat.min_eq_right (by omega)] at hb
            cases hlk : listed.getD k false with
            | false => rfl
            | true => exact (hdownB k hlk hb).elim
        have h1 : z ≤ bl rs (fun k => listed.getD k false) := by
          rcases hz4 with rfl | ⟨k, rfl, hk⟩
          · exact Nat.zero_le _
          · rcases Nat.lt_or_ge k (bl rs (fun k => listed.getD k false)) with h | h
            · exact h
            · have := lastL_none _ _ k h (show k < rs.length by omega)
              simp [(hlow k (by omega) hk (by omega)).1 (by omega), hk] at this
        have h2 : bl rs (fun k => listed.getD k false) ≤ z := by
          rcases Nat.lt_or_ge z (bl rs (fun k => listed.getD k false)) with h | h
          · exfalso
            obtain ⟨k, hk⟩ : ∃ k, bl rs (fun k => listed.getD k false) = k + 1 := ⟨bl rs (fun k => listed.getD k false) - 1, by omega⟩
            obtain ⟨h1, h2⟩ := lastL_some _ _ k hk
            simp only [Bool.and_eq_true] at h1
            rcases Nat.lt_trichotomy k i with h' | h' | h'
            · rw [hz3 k (by omega) h'] at h1; cases h1.2
            · subst h'; rw [hl] at h1; cases h1.1
            · rw [(hlow k h2 h1.2 (by omega)).2 h'] at h1; cases h1.1
          · exact h
        omega
      have hbl' : bl rs (fun k => (listed.setIfInBounds i true).getD k false) = z := by
        rw [← hbz]
        refine lastL_congr _ fun k hk => ?_
        by_cases hki : k = i
        · subst hki; simp [hbarOf]
        · simp [hgs, hki]
      -- two operations that look at the same variable, one of which writes it, are ordered
      have hpair : ∀ k b, k < rs.length → k ≠ i → touch (T i).env r.op = some b → Wr rs T k b = true → barOf rs k = false → (k < i → listed.getD k false = true) ∧ (i < k → listed.getD k false = false) := by
        intro k b hk hne ht hW hbk
        have hpk := (hS.wr_lt k b hbk hW).2
        have hrk := List.getElem?_eq_getElem hk
        have hW' : isSt rs[k].op = true ∧ touch (T k).env rs[k].op = some b := by simpa [Wr, hrk] using hW
        have hbk' : rs[k].bar = false := by simpa [barOf, hrk] using hbk
        have hpk' : rs[k].op.isPure = false := by simpa [pureOf, hrk] using hpk
        refine ⟨fun hlt => ?_, fun hgt => ?_⟩
        · rcases hord.crit i r hr k hlt hpk hpure (.inr (by simp [stOf, hrk, hW'.1])) with h | h
          · exact hdownA k h
          · exact (hS.crit i r hr k h _ hrk hlt hbk' b hW'.2 ht).elim
        · cases hlk : listed.getD k false with
          | false => rfl
          | true =>
            rcases hord.crit k _ hrk i hgt hpo hpk' (.inl hW'.1) with h | h
            · exact (hdownB k hlk h).elim
            · exact (hS.crit k _ hrk i h r hr hgt hbar b ht hW'.2).elim
      have hzle : ∀ n, z ≤ lwb (barOf rs) (Wr rs T) rs.length (fun k => listed.getD k false) n := fun n => by rw [← hbz]; exact bl_le n
      have hbarin : ∀ k, listed.getD k false = true → barOf rs k = true → k < z := fun k hlk hb => by
        rcases Nat.lt_or_ge k z with h | h
        · exact h
        · have := lastL_none _ _ k (show bl rs (fun k => listed.getD k false) ≤ k by omega) (hI.lt k hlk)
          simp [hlk, hb] at this
      -- the variable that it looks at says what it says in order
      have hsame : ∀ b, touch (T i).env r.op = some b → b < base + z → (T i).bx b = (T (lwb (barOf rs) (Wr rs T) rs.length (fun k => listed.getD k false) b)).bx b := by
        intro b ht hbz'
        have hle : lwb (barOf rs) (Wr rs T) rs.length (fun k => listed.getD k false) b ≤ i := by
          rcases Nat.lt_or_ge i (lwb (barOf rs) (Wr rs T) rs.length (fun k => listed.getD k false) b) with h | h
          · exfalso
            obtain ⟨k, hk⟩ : ∃ k, lwb (barOf rs) (Wr rs T) rs.length (fun k => listed.getD k false) b = k + 1 := ⟨lwb (barOf rs) (Wr rs T) rs.length (fun k => listed.getD k false) b - 1, by omega⟩
            obtain ⟨h1, h2⟩ := lastL_some _ _ k hk
            simp only [Bool.and_eq_true, Bool.or_eq_true] at h1
            cases hb : barOf rs k with
            | true => have := hbarin k h1.1 hb; omega
            | false =>
              have hW : Wr rs T k b = true := by rcases h1.2 with h3 | h3; (rw [hb] at h3; cases h3); exact h3
              by_cases hki : k = i
              · subst hki; rw [hl] at h1; cases h1.1
              · rw [(hpair k b h2 hki ht hW hb).2 (by omega)] at h1; cases h1.1
          · exact h
        refine still (bar := barOf rs) (W := Wr rs T) (m := rs.length) (base := base) (F := fun i => (T i).bx) (fun k hk hk' => ?_) (fun k hk hk' x hx => (hS.bx_group k hk hk' x hx).1) (by omega) hle
        have hzk : z ≤ k := Nat.le_trans (hzle b) hk
        have hb : barOf rs k = false := hz3 k hzk hk'
        refine ⟨hb, ?_, by omega⟩
        cases hW : Wr rs T k b with
        | false => rfl
        | true =>
          have h1 := lastL_none _ _ k hk (show k < rs.length by omega)
          simp [(hpair k b (by omega) (by omega) ht hW hb).1 hk', hW] at h1
      rw [hbar] at hstep
      refine hop (SX T base rs (fun k => listed.getD k false)) (some (L i)) hstep hI.sim ?_ ?_ ?_
      · intro k b ht hb
        simp only [cutB] at hb
        split at hb
        · rename_i hk
          rw [hz1] at hk
          show sx (fun i => (T i).bx) base (bl rs (fun k => listed.getD k false)) (lwb (barOf rs) (Wr rs T) rs.length (fun k => listed.getD k false)) (fun k => listed.getD k false) k = some b
          unfold sx
          rw [hbz, if_pos hk]
          have := hsame k ht hk
          simp only
          rw [← this]; exact hb
        · cases hb
      · intro k b hb
        simp only [cutB] at hb
        split at hb
        · rename_i hk
          rw [hz1] at hk
          show sx (fun i => (T i).tk) base (bl rs (fun k => listed.getD k false)) (fun _ => bl rs (fun k => listed.getD k false)) (fun k => listed.getD k false) k = some b
          unfold sx
          rw [hbz, if_pos hk]
          have := still (bar := barOf rs) (W := fun _ _ => false) (m := rs.length) (base := base) (F := fun i => (T i).tk) (u := z) (v := i) (n := k) (fun q hq hq' => ⟨hz3 q hq hq', rfl, by omega⟩) (fun q hq hq' x hx _ => (hS.bx_group q hq hq' x hx).2) (by omega) hz2
          exact this.symm.trans hb
        · cases hb
      · intro e M' N' own' w' h3 h4 h5 h6 _ h6w
        simp only [Option.isNone_some, Bool.false_or] at h6
        obtain ⟨hn1, hn2⟩ := hS.none i (by omega) (base + i) (Nat.le_refl _)
        have hwi : ∀ b c, e.wr = some (b, c) → b < base + z ∧ Wr rs T i b = true ∧ touch (T i).env r.op = some b := fun b c hc => by
          obtain ⟨⟨c0, h7⟩, h8, h9⟩ := h6w b c hc
          simp only [cutB] at h7
          split at h7
          · rename_i hb
            exact ⟨by omega, by simp [Wr, hr, h8, h9], h9⟩
          · cases h7
        obtain ⟨hm1, hm2⟩ := eff_inert_nm (S2 := SX T base rs (fun k => listed.getD k false)) h6 hn1 (fun b c hc => let ⟨⟨c0, h⟩, _⟩ := h6w b c hc; ⟨c0, cutB_le h⟩) hn2
        have hsx : ∀ {α : Type} (F : Nat → Nat → Option α) (j : Nat → Nat) (k : Nat) (c : α), sx F base (bl rs (fun k => (listed.setIfInBounds i true).getD k false)) j (fun k => (listed.setIfInBounds i true).getD k false) k = some c → (k = base + i ∧ F (i + 1) k = some c) ∨ (k ≠ base + i ∧ ((k < base + z ∧ F (j k) k = some c) ∨ (¬ k < base + z ∧ listed.getD (k - base) false = true ∧ F (k - base + 1) k = some c))) := by
          intro α F j k c h
          rw [hbl'] at h
          unfold sx at h
          split at h
          · rename_i hn
            exact .inr ⟨by omega, .inl ⟨hn, h⟩⟩
          · rename_i hn
            split at h
            · rename_i hlk
              have hlk : (listed.setIfInBounds i true).getD (k - base) false = true := hlk
              rw [hgs] at hlk
              split at hlk
              · rename_i hki
                exact .inl ⟨by omega, by rw [hki] at h; exact h⟩
              · exact .inr ⟨by omega, .inr ⟨hn, hlk, h⟩⟩
            · cases h
        have hold : ∀ k, k ≠ base + i → (∀ c, e.wr ≠ some (k, c)) → ((SX T base rs (fun k => listed.getD k false)).eff (base + i) e).bx k = (SX T base rs (fun k => listed.getD k false)).bx k := fun k hk hw => (eff_inert_bx h6 hk).1 hw
        have hlow : ∀ k, k < base + z → (SX T base rs (fun k => listed.getD k false)).bx k = (T (lwb (barOf rs) (Wr rs T) rs.length (fun k => listed.getD k false) k)).bx k := fun k hk => by
          show sx (fun i => (T i).bx) base (bl rs (fun k => listed.getD k false)) (lwb (barOf rs) (Wr rs T) rs.length (fun k => listed.getD k false)) (fun k => listed.getD k false) k = _
          unfold sx
          rw [hbz, if_pos hk]
        refine h3.sub (fun k b hb => ?_) (fun k b hb => ?_)
        · rcases hsx (fun i => (T i).bx) _ k b hb with ⟨rfl, hb⟩ | ⟨hk, ⟨hkz, hb⟩ | ⟨hkz, hlk, hb⟩⟩
          · simp only [h4] at hb
            exact hm1 b hb
          · cases hW : Wr rs T i k with
            | true =>
              have ht : touch (T i).env r.op = some k := by
                have : isSt r.op = true ∧ touch (T i).env r.op = some k := by simpa [Wr, hr] using hW
                exact this.2
              have hlw : lwb (barOf rs) (Wr rs T) rs.length (fun k => (listed.setIfInBounds i true).getD k false) k = i + 1 := lastL_eq _ _ i hi' (by simp [hgs, hW]) (fun q hq hq' => by
                have hne : q ≠ i := by omega
                cases hlq : listed.getD q false with
                | false => simp [hgs, hne, hlq]
                | true =>
                  cases hbq : barOf rs q with
                  | true => have := hbarin q hlq hbq; omega
                  | false =>
                    cases hWq : Wr rs T q k with
                    | false => simp
                    | true =>
                      have := (hpair q k hq' hne ht hWq hbq).2 hq
                      rw [hlq] at this; cases this)
              simp only [hlw, h4] at hb
              by_cases hw : ∃ c, e.wr = some (k, c)
              · obtain ⟨c, hw⟩ := hw
                rw [eff_wr (S2 := SX T base rs (fun k => listed.getD k false)) hw hk] at hb
                exact hb
              · have hw' : ∀ c, e.wr ≠ some (k, c) := fun c hc => hw ⟨c, hc⟩
                rw [(eff_inert_bx h6 hk).1 hw', hsame k ht hkz] at hb
                rw [hold k hk hw', hlow k hkz]; exact hb
            | false =>
              have hlw : lwb (barOf rs) (Wr rs T) rs.length (fun k => (listed.setIfInBounds i true).getD k false) k = lwb (barOf rs) (Wr rs T) rs.length (fun k => listed.getD k false) k := lastL_congr _ fun q hq => by
                by_cases hqi : q = i
                · subst hqi; simp [hbarOf, hW]
                · simp [hgs, hqi]
              simp only [hlw] at hb
              have hw' : ∀ c, e.wr ≠ some (k, c) := fun c hc => by have := (hwi k c hc).2.1; rw [hW] at this; cases this
              rw [hold k hk hw', hlow k hkz]; exact hb
          · have hw' : ∀ c, e.wr ≠ some (k, c) := fun c hc => hkz (by have := (hwi k c hc).1; exact this)
            rw [hold k hk hw']
            show sx (fun i => (T i).bx) base (bl rs (fun k => listed.getD k false)) (lwb (barOf rs) (Wr rs T) rs.length (fun k => listed.getD k false)) (fun k => listed.getD k false) k = _
            unfold sx
            rw [hbz, if_neg hkz, if_pos hlk]; exact hb
        · rcases hsx (fun i => (T i).tk) (fun _ => bl rs (fun k => (listed.setIfInBounds i true).getD k false)) k b hb with ⟨rfl, hb⟩ | ⟨hk, ⟨hkz, hb⟩ | ⟨hkz, hlk, hb⟩⟩
          · simp only [h5] at hb
            exact hm2 b hb
          · rw [(eff_inert_bx h6 hk).2]
            show sx (fun i => (T i).tk) base (bl rs (fun k => listed.getD k false)) (fun _ => bl rs (fun k => listed.getD k false)) (fun k => listed.getD k false) k = _
            unfold sx
            rw [hbz, if_pos hkz]
            simp only [hbl'] at hb; exact hb
          · rw [(eff_inert_bx h6 hk).2]
            show sx (fun i => (T i).tk) base (bl rs (fun k => listed.getD k false)) (fun _ => bl rs (fun k => listed.getD k false)) (fun k => listed.getD k false) k = _
            unfold sx
            rw [hbz, if_neg hkz, if_pos hlk]; exact hb
end
end Go.Proofs.YtbhingdlclfipaaDoor.Ab
