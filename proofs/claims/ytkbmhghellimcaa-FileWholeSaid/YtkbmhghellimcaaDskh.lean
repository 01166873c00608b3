/- The walks of (*Disk).Sync, Rename, Remove, SyncDir, Read, Fuse, Down, Steps, Pending, New. -/
import Derived.Test.YtkbmhghellimcaaDskg
namespace Go.Proofs.Ytkbmhghellimcaa
open Go.RowKit
open Go.Maps (Keyed)
attribute [local go_sem] size_str get_str

theorem there_no (w : World) (L : Lay) (D : DiskS) (h : DiskAt w L D) (s : Str) (hs : s.length ≤ maxLen) (E : Nat) (hE : thereE D s = E) (h0 : E ≠ 0) :
    Calls Try.prog 55 #[.pointer (some ⟨L.p, 0, none⟩), str s] w fun e w' => e = .returned (.tuple #[.pointer none, .int .i64 E]) ∧ w = w' :=
  (there_any w L D h s hs).mono fun e w' he => ⟨by rw [he.1, thereV, hE, if_neg h0], he.2⟩
theorem there_yes (w : World) (L : Lay) (D : DiskS) (h : DiskAt w L D) (s : Str) (hs : s.length ≤ maxLen) (n b : Nat) (hd : D.down = false) (hn : findN s D.names = some n) (hb : L.bs.getD n 0 = b) :
    Calls Try.prog 55 #[.pointer (some ⟨L.p, 0, none⟩), str s] w fun e w' => e = .returned (.tuple #[.pointer (some ⟨b, 0, none⟩), .int .i64 0]) ∧ w = w' :=
  (there_any w L D h s hs).mono fun e w' he => ⟨by
    have h0 : thereE D s = 0 := by simp [thereE, hd, hn]
    rw [he.1, thereV, h0, if_pos rfl, hn, ← hb]
    rfl, he.2⟩
theorem there_cases (D : DiskS) (s : Str) : (thereE D s = 0 ∧ D.down = false ∧ ∃ n, findN s D.names = some n) ∨ thereE D s = 12 ∨ thereE D s = 15 := by
  unfold thereE
  cases D.down
  · cases findN s D.names <;> simp
  · simp
theorem find_lt {w : World} {L : Lay} {D : DiskS} (h : DiskAt w L D) {s : Str} {n : Nat} (hf : findN s D.names = some n) : n < L.bs.length := by
  obtain ⟨p, hp, rfl⟩ := find_mem hf
  rw [h.nlen]
  exact h.ok.names p hp
/-- The step's contract, its answer written out. -/
theorem step_no (w : World) (L : Lay) (D : DiskS) (h : DiskAt w L D) (hst : D.steps < 999999999) (h0 : D.fuse = 0) :
    Calls Try.prog 52 #[.pointer (some ⟨L.p, 0, none⟩)] w fun e w' => e = .returned (.int .i64 15) ∧ DiskAt w' L (stepD D) ∧ Only (· = L.p) w w' := by
  have := step_any w L D h hst
  rwa [show stepE D = 15 by simp [stepE, h0]] at this
theorem step_yes (w : World) (L : Lay) (D : DiskS) (h : DiskAt w L D) (hst : D.steps < 999999999) (h0 : D.fuse ≠ 0) :
    Calls Try.prog 52 #[.pointer (some ⟨L.p, 0, none⟩)] w fun e w' => e = .returned (.int .i64 0) ∧ DiskAt w' L (stepD D) ∧ Only (· = L.p) w w' := by
  have := step_any w L D h hst
  rwa [show stepE D = 0 by simp [stepE, h0]] at this
theorem only_p {w w' : World} {L : Lay} (h : Only (· = L.p) w w') : Only L.foot w w' := h.mono (fun _ _ e => .inl e)

theorem left_turned {w w2 w3 : World} {L : Lay} {D' : DiskS} {pv : Value} (h : DiskAt w3 { L with pv := pv } D') (h1 : Only L.foot w w2) (h2 : Only L.foot w2 w3) (hpv : pv.ownBlock = L.pv.ownBlock ∨ ∃ g, pv.ownBlock = some g ∧ w2.heap.size ≤ g) : Left w L D' w3 := by
  refine ⟨{ L with pv := pv }, rfl, h, h1.trans h2 (fun _ e => .inl e), fun b hb => ?_⟩
  rcases hb with e | e | e | e | e
  · exact .inl (.inl e)
  · exact .inl (.inr (.inl e))
  · exact .inl (.inr (.inr (.inl e)))
  · exact .inl (.inr (.inr (.inr (.inl e))))
  · rcases hpv with h | ⟨g, h, hg⟩
    · exact .inl (.inr (.inr (.inr (.inr (by rw [← h]; exact e)))))
    · right
      rw [show pv.ownBlock = some b from e] at h
      injection h with h
      have := h1.size
      omega
set_option maxRecDepth 100000 in
set_option maxHeartbeats 1600000 in
theorem sync_any (w : World) (L : Lay) (D : DiskS) (s : Str) (h : DiskAt w L D) (hs : s.length ≤ maxLen) (hst : D.steps < 999999999) :
    Calls Try.prog 31 #[.pointer (some ⟨L.p, 0, none⟩), str s] w fun e w' => e = .returned (.int .i64 (syncE D s)) ∧ DiskAt w' L (syncD D s) ∧ Only L.foot w w' := by
  have H := Lib.hid h
  have E : Hid (syncE D s = if thereE D s = 0 then stepE D else thereE D s) := Lib.hid rfl
  have V : Hid (syncD D s = if thereE D s = 0 then (if D.fuse = 0 then stepD D else match findN s D.names with | some n => { stepD D with sure := D.sure.set n (D.now.getD n []) } | none => D) else D) := Lib.hid rfl
  rcases there_cases D s with ⟨h0, hd, n, hf⟩ | h0 | h0
  · obtain ⟨nb, hnb⟩ : ∃ nb, L.bs.getD n 0 = nb := ⟨_, rfl⟩
    have TH := Lib.hid (there_yes w L D h s hs n nb hd hf hnb)
    have hi := find_lt h hf
    simp only [h0, if_true, hf] at E V
    have Hnb := Lib.hid hnb
    by_cases hfu : D.fuse = 0
    · have ST := Lib.hid (step_no w L D h hst hfu)
      have Hfu := Lib.hid hfu
      clear h h0 hd hf hnb hfu
      go_enter Try.func31, Try.ntmps31
      go_wp2_with (first | (go_at_call 55; refine TH.out.mono ?_; rintro e w' ⟨rfl, rfl⟩) | (go_at_call 52; refine ST.out.mono ?_; rintro e w2 ⟨rfl, h2, ho2⟩; have H2 := Lib.hid h2; have HO2 := Lib.hid ho2; clear h2 ho2))
      go_ret
      refine ⟨by rw [E.out, stepE, if_pos Hfu.out]; rfl, ?_⟩
      rw [V.out, if_pos Hfu.out]
      exact ⟨H2.out, only_p HO2.out⟩
    · have ST := Lib.hid (step_yes w L D h hst hfu)
      have Hfu := Lib.hid hfu
      obtain ⟨tx, htx⟩ : ∃ tx, D.now.getD n [] = tx := ⟨_, rfl⟩
      have Htx := Lib.hid htx
      clear h h0 hd hf hnb hfu htx
      go_enter Try.func31, Try.ntmps31
      go_wp2_with (first | (go_at_call 55; refine TH.out.mono ?_; rintro e w' ⟨rfl, rfl⟩) | (go_at_call 52; refine ST.out.mono ?_; rintro e w2 ⟨rfl, h2, ho2⟩; have hB := h2.nodes n hi; rw [stepD_now, stepD_sure, Hnb.out, Htx.out] at hB; have cn : w2.cell? ⟨nb, 0, none⟩ = some (str tx) := hB.cell 0; have f1 := hB.free 1; obtain ⟨u1, cs⟩ := hB.at 1 (by simp); have H2 := Lib.hid h2; have HO2 := Lib.hid ho2; clear h2 ho2 hB))
      go_ret
      refine ⟨by rw [E.out, stepE, if_neg Hfu.out]; rfl, ?_⟩
      rw [V.out, if_neg Hfu.out]
      have h3 := H2.out.setSure hi tx
      rw [Hnb.out, stepD_sure] at h3
      rw [Htx.out]
      exact ⟨h3.1, (only_p HO2.out).trans h3.2 (fun _ e => .inl e)⟩
  all_goals
    have TH := Lib.hid (there_no w L D h s hs _ h0 (by decide))
    simp only [h0, Nat.reduceEqDiff, if_false] at E V
    clear h h0
    go_enter Try.func31, Try.ntmps31
    go_wp2_with (go_at_call 55; refine TH.out.mono ?_; rintro e w' ⟨rfl, rfl⟩)
    go_ret
    refine ⟨by rw [E.out]; rfl, ?_⟩
    rw [V.out]
    exact ⟨H.out, Only.refl _ _⟩

set_option maxRecDepth 100000 in
set_option maxHeartbeats 1600000 in
theorem remove_any (w : World) (L : Lay) (D : DiskS) (s : Str) (h : DiskAt w L D) (hs : s.length ≤ maxLen) (hst : D.steps < 999999999) (hl : D.names.length < 1000000) (hp : D.pending.length < 999999) :
    Calls Try.prog 41 #[.pointer (some ⟨L.p, 0, none⟩), str s] w fun e w' => e = .returned (.int .i64 (removeE D s)) ∧ Left w L (removeD D s) w' := by
  have H := Lib.hid h
  have E : Hid (removeE D s = if thereE D s = 0 then stepE D else thereE D s) := Lib.hid rfl
  have V : Hid (removeD D s = if thereE D s = 0 then (if D.fuse = 0 then stepD D else turnedD (stepD D) ⟨3, s, [], 0⟩) else D) := Lib.hid rfl
  rcases there_cases D s with ⟨h0, hd, n, hf⟩ | h0 | h0
  · have TH := Lib.hid (there_yes w L D h s hs n _ hd hf rfl)
    generalize L.bs.getD n 0 = nb at TH
    simp only [h0, if_true] at E V
    by_cases hfu : D.fuse = 0
    · have ST := Lib.hid (step_no w L D h hst hfu)
      have Hfu := Lib.hid hfu
      clear h h0 hd hf hfu
      go_enter Try.func41, Try.ntmps41
      go_wp2_with (first | (go_at_call 55; refine TH.out.mono ?_; rintro e w' ⟨rfl, rfl⟩) | (go_at_call 52; refine ST.out.mono ?_; rintro e w2 ⟨rfl, h2, ho2⟩; have H2 := Lib.hid h2; have HO2 := Lib.hid ho2; clear h2 ho2))
      go_ret
      refine ⟨by rw [E.out, stepE, if_pos Hfu.out]; rfl, ?_⟩
      rw [V.out, if_pos Hfu.out]
      exact Left.of H2.out (only_p HO2.out)
    · have ST := Lib.hid (step_yes w L D h hst hfu)
      have Hfu := Lib.hid hfu
      clear h h0 hd hf hfu
      go_enter Try.func41, Try.ntmps41
      go_wp2_with (first | (go_at_call 55; refine TH.out.mono ?_; rintro e w' ⟨rfl, rfl⟩) | (go_at_call 52; refine ST.out.mono ?_; rintro e w2 ⟨rfl, h2, ho2⟩; have H2 := Lib.hid h2; have HO2 := Lib.hid ho2; clear h2 ho2))
      refine (turned_any _ _ _ H2.out ⟨3, s, [], 0⟩ ⟨hs, by simp, .inr (.inr rfl), fun e => by simp at e⟩ (by rw [stepD_names]; exact hl) (by rw [stepD_pending]; exact hp)).mono ?_
      rintro e w3 ⟨rfl, pv, h3, ho3, hpv⟩
      have H3 := Lib.hid h3
      have HO3 := Lib.hid ho3
      clear h3 ho3
      go_wp2
      go_ret
      refine ⟨by rw [E.out, stepE, if_neg Hfu.out]; rfl, ?_⟩
      rw [V.out, if_neg Hfu.out]
      exact left_turned H3.out (only_p HO2.out) HO3.out hpv
  all_goals
    have TH := Lib.hid (there_no w L D h s hs _ h0 (by decide))
    simp only [h0, Nat.reduceEqDiff, if_false] at E V
    clear h h0
    go_enter Try.func41, Try.ntmps41
    go_wp2_with (go_at_call 55; refine TH.out.mono ?_; rintro e w' ⟨rfl, rfl⟩)
    go_ret
    refine ⟨by rw [E.out]; rfl, ?_⟩
    rw [V.out]
    exact Left.refl H.out
end Go.Proofs.Ytkbmhghellimcaa
