/- The layer session, part 14: what a step tells. -/
import Derived.Test.YtbhingdlclfipaaDoorGm
namespace Go.Proofs.YtbhingdlclfipaaDoor.Ab
open Go Go.RowKit Go.Proofs
set_option linter.unusedVariables false
set_option linter.unusedSimpArgs false
structure Good (s : Ses) (a : Act) (t : Ses) (p : Sd) : Prop where
  ph : s.ph ≤ t.ph
  rng : t.ph ≤ 6
  nm : t.nm = s.nm
  pw : t.pw = s.pw
  fin : s.ph = 6 → t = s ∧ p = noS
  up : 0 < p.up.length → s.ph = 5 ∨ t.ph = 5 ∨ t.ph = 6
  len : p.notes.length ≤ 2
  notes : ∀ n ∈ p.notes, (n.kind = 7 → n.data.size = 16) ∧ n.text = no ∧ (n.kind ≠ 7 → n.data = s.pw → a.n.data = s.pw)
theorem salt_size (a b c : ByteArray) : (saltP a b c).size = 16 := md5B_size _
theorem good_take (s : Ses) (a : Act) (h1 : 1 ≤ s.ph) (h6 : s.ph ≤ 6) (hp : s.pw ≠ no) : Good s a (takeP s a.n).1 (takeP s a.n).2 := by
  cases hu : s.under
  · have he : takeP s a.n = (s, noS) := by rw [takeP, hu]; rfl
    rw [he]
    exact ⟨by simp, h6, rfl, rfl, fun _ => ⟨rfl, rfl⟩, by simp [noS], by simp [noS], by simp [noS]⟩
  have hr := (under_iff s).1 hu
  unfold takeP
  rw [if_pos hu]
  split
  · exact ⟨h6, by simp [Ses.over], rfl, rfl, fun h => by omega, fun _ => by simp [Ses.over], by simp, by simp⟩
  split
  · rename_i h
    refine ⟨by simp [Ses.says]; omega, by simp [Ses.says], rfl, rfl, fun h => by omega, by simp, by simp, fun n hn => ?_⟩
    rw [List.mem_singleton.1 hn]
    exact ⟨fun _ => salt_size _ _ _, rfl, fun h => absurd rfl h⟩
  split
  · rename_i h
    split
    · split
      · refine ⟨by simp [Ses.says]; omega, by simp [Ses.says], rfl, rfl, fun h => by omega, by simp, by simp, fun n hn => ?_⟩
        rw [List.mem_singleton.1 hn]
        exact ⟨fun h => by simp [nt] at h, rfl, fun _ h => h⟩
      · exact ⟨h6, by simp [Ses.over], rfl, rfl, fun h => by omega, fun _ => by simp [Ses.over], by simp, by simp⟩
    · exact ⟨by simp [Ses.heard], h6, rfl, rfl, fun h => by omega, by simp [noS], by simp [noS], by simp [noS]⟩
  split
  · rename_i h
    refine ⟨by simp [Ses.says]; omega, by simp [Ses.says], rfl, rfl, fun h => by omega, by simp, by simp, fun n hn => ?_⟩
    rw [List.mem_singleton.1 hn]
    exact ⟨fun h => by simp [nt] at h, rfl, fun _ h => absurd h.symm hp⟩
  split
  · rename_i h
    refine ⟨by simp [Ses.says]; omega, by simp [Ses.says], rfl, rfl, fun h => by omega, fun _ => by simp [Ses.says], by simp, fun n hn => ?_⟩
    rcases List.mem_cons.1 hn with rfl | hn
    · exact ⟨fun h => by simp [nt] at h, rfl, fun _ h => absurd h.symm hp⟩
    · rw [List.mem_singleton.1 hn]
      exact ⟨fun h => by simp [nt] at h, rfl, fun _ h => absurd h.symm hp⟩
  split
  · rename_i h
    exact ⟨by simp [Ses.heard], h6, rfl, rfl, fun h => by omega, fun _ => .inl h.1, by simp, by simp⟩
  · exact ⟨by simp [Ses.heard], h6, rfl, rfl, fun h => by omega, by simp [noS], by simp [noS], by simp [noS]⟩
theorem good_tick (s : Ses) (a : Act) (h1 : 1 ≤ s.ph) (h6 : s.ph ≤ 6) (hp : s.pw ≠ no) : Good s a (tickP s).1 (tickP s).2 := by
  cases hu : s.under
  · have he : tickP s = (s, noS) := by rw [tickP, hu]; rfl
    rw [he]
    exact ⟨by simp, h6, rfl, rfl, fun _ => ⟨rfl, rfl⟩, by simp [noS], by simp [noS], by simp [noS]⟩
  have hr := (under_iff s).1 hu
  unfold tickP
  rw [if_pos hu]
  split
  · refine ⟨by simp [Ses.says]; omega, by simp [Ses.says], rfl, rfl, fun h => by omega, fun _ => by simp [Ses.says], by simp, fun n hn => ?_⟩
    rw [List.mem_singleton.1 hn]
    exact ⟨fun h => by simp [nt] at h, rfl, fun _ h => absurd h.symm hp⟩
  split
  · rename_i h
    refine ⟨by simp [Ses.says], by simp [Ses.says]; omega, rfl, rfl, fun h => by omega, by simp, by simp, fun n hn => ?_⟩
    rw [List.mem_singleton.1 hn]
    exact ⟨fun h => by simp [nt] at h, rfl, fun _ h => absurd h.symm hp⟩
  · exact ⟨by simp [Ses.tick], h6, rfl, rfl, fun h => by omega, by simp [noS], by simp [noS], by simp [noS]⟩
theorem good_stop (s : Ses) (a : Act) (h1 : 1 ≤ s.ph) (h6 : s.ph ≤ 6) (hp : s.pw ≠ no) : Good s a (stopP s a.code).1 (stopP s a.code).2 := by
  cases hu : s.under
  · have he : stopP s a.code = (s, noS) := by rw [stopP, hu]; rfl
    rw [he]
    exact ⟨by simp, h6, rfl, rfl, fun _ => ⟨rfl, rfl⟩, by simp [noS], by simp [noS], by simp [noS]⟩
  have hr := (under_iff s).1 hu
  unfold stopP
  rw [if_pos hu]
  refine ⟨by simp [Ses.says]; omega, by simp [Ses.says], rfl, rfl, fun h => by omega, fun _ => by simp [Ses.says], by simp, fun n hn => ?_⟩
  rw [List.mem_singleton.1 hn]
  exact ⟨fun h => by simp [nt] at h, rfl, fun _ h => absurd h.symm hp⟩
theorem good_does (s : Ses) (a : Act) (h1 : 1 ≤ s.ph) (h6 : s.ph ≤ 6) (hp : s.pw ≠ no) : Good s a (doesP s a).1 (doesP s a).2 := by
  unfold doesP
  split
  · exact good_take s a h1 h6 hp
  split
  · exact good_tick s a h1 h6 hp
  split
  · exact good_stop s a h1 h6 hp
  unfold sentP
  split
  · rename_i hu
    have hr := (under_iff s).1 hu
    exact ⟨by simp, h6, rfl, rfl, fun h => by omega, by simp [noS], by simp [noS], by simp [noS]⟩
  · exact ⟨by simp, h6, rfl, rfl, fun _ => ⟨rfl, rfl⟩, by simp [noS], by simp [noS], by simp [noS]⟩
theorem start_secret (b : Bg) (h : b.start.2.2 = 0) : b.pw ≠ no ∧ b.start.1.ph = 1 := by
  unfold Bg.start startP at h ⊢
  split
  · rename_i hs
    refine ⟨fun hp => ?_, rfl⟩
    rw [hp] at hs
    simp [startB, secretB, no] at hs
  · rename_i hs
    rw [if_neg hs] at h
    cases h
end Go.Proofs.YtbhingdlclfipaaDoor.Ab
