/- The walks of (*Disk).Rename, SyncDir, Read, Fuse, Down, Steps, Pending, and of New. -/
import Derived.Test.YtkbmhghellimcaaDskh
namespace Go.Proofs.Ytkbmhghellimcaa
open Go.RowKit
open Go.Maps (Keyed)
attribute [local go_sem] size_str get_str

set_option maxRecDepth 100000 in
set_option maxHeartbeats 1600000 in
theorem rename_any (w : World) (L : Lay) (D : DiskS) (s t : Str) (h : DiskAt w L D) (hs : s.length ≤ maxLen) (ht : t.length ≤ maxLen) (hst : D.steps < 999999999) (hl : D.names.length < 1000000) (hp : D.pending.length < 999999) :
    Calls Try.prog 32 #[.pointer (some ⟨L.p, 0, none⟩), str s, str t] w fun e w' => e = .returned (.int .i64 (renameE D s t)) ∧ Left w L (renameD D s t) w' := by
  have H := Lib.hid h
  have E : Hid (renameE D s t = if thereE D s = 0 then (if nameB t = false then 2 else if s = t then 0 else stepE D) else thereE D s) := Lib.hid rfl
  have V : Hid (renameD D s t = if thereE D s = 0 then (if nameB t = false then D else if s = t then D else if D.fuse = 0 then stepD D else turnedD (stepD D) ⟨2, s, t, 0⟩) else D) := Lib.hid rfl
  rcases there_cases D s with ⟨h0, hd, n, hf⟩ | h0 | h0
  · have TH := Lib.hid (there_yes w L D h s hs n _ hd hf rfl)
    generalize L.bs.getD n 0 = nb at TH
    simp only [h0, if_true] at E V
    clear h0 hd hf
    cases hn : nameB t with
    | false =>
      simp only [hn, if_true] at E V
      clear h
      go_enter Try.func32, Try.ntmps32
      go_wp2_with (first | (go_at_call 55; refine TH.out.mono ?_; rintro e w' ⟨rfl, rfl⟩) | (go_at_call 50; refine (name_any _ t).mono ?_; rintro e w' ⟨rfl, rfl⟩))
      go_ret
      refine ⟨by rw [E.out]; rfl, ?_⟩
      rw [V.out]
      exact Left.refl H.out
    | true =>
      simp only [hn, Bool.true_eq_false, if_false] at E V
      by_cases he : s = t
      · simp only [he, if_true] at E V
        have hq : (s == t) = true := by rw [beq_iff_eq]; exact he
        clear h he
        go_enter Try.func32, Try.ntmps32
        go_wp2_with (first | (go_at_call 55; refine TH.out.mono ?_; rintro e w' ⟨rfl, rfl⟩) | (go_at_call 50; refine (name_any _ t).mono ?_; rintro e w' ⟨rfl, rfl⟩))
        go_ret
        refine ⟨by rw [beq_iff_eq.1 hq, E.out]; rfl, ?_⟩
        rw [beq_iff_eq.1 hq, V.out]
        exact Left.refl H.out
      · simp only [he, if_false] at E V
        have hq : (s == t) = false := by rw [beq_eq_false_iff_ne]; exact he
        clear he
        by_cases hfu : D.fuse = 0
        · have ST := Lib.hid (step_no w L D h hst hfu)
          have Hfu := Lib.hid hfu
          clear h hfu
          go_enter Try.func32, Try.ntmps32
          go_wp2_with (first | (go_at_call 55; refine TH.out.mono ?_; rintro e w' ⟨rfl, rfl⟩) | (go_at_call 50; refine (name_any _ t).mono ?_; rintro e w' ⟨rfl, rfl⟩) | (go_at_call 52; refine ST.out.mono ?_; rintro e w2 ⟨rfl, h2, ho2⟩; have H2 := Lib.hid h2; have HO2 := Lib.hid ho2; clear h2 ho2))
          go_ret
          refine ⟨by rw [E.out, stepE, if_pos Hfu.out]; rfl, ?_⟩
          rw [V.out, if_pos Hfu.out]
          exact Left.of H2.out (only_p HO2.out)
        · have ST := Lib.hid (step_yes w L D h hst hfu)
          have Hfu := Lib.hid hfu
          clear h hfu
          go_enter Try.func32, Try.ntmps32
          go_wp2_with (first | (go_at_call 55; refine TH.out.mono ?_; rintro e w' ⟨rfl, rfl⟩) | (go_at_call 50; refine (name_any _ t).mono ?_; rintro e w' ⟨rfl, rfl⟩) | (go_at_call 52; refine ST.out.mono ?_; rintro e w2 ⟨rfl, h2, ho2⟩; have H2 := Lib.hid h2; have HO2 := Lib.hid ho2; clear h2 ho2))
          refine (turned_any _ _ _ H2.out ⟨2, s, t, 0⟩ ⟨hs, ht, .inr (.inl rfl), fun e => by simp at e⟩ (by rw [stepD_names]; exact hl) (by rw [stepD_pending]; exact hp)).mono ?_
          rintro e w3 ⟨rfl, pv, h3, ho3, hpv⟩
          have H3 := Lib.hid h3
          have HO3 := Lib.hid ho3
          clear h3 ho3
          go_wp2
          go_ret
          refine ⟨by rw [E.out, stepE, if_neg Hfu.out]; rfl, ?_⟩
          rw [V.out, if_neg Hfu.out]
          exact left_turned H3.out (only_p HO2.out) HO3.out hpv
  all_goals
    have TH := Lib.hid (there_no w L D h s hs _ h0 (by decide))
    simp only [h0, Nat.reduceEqDiff, if_false] at E V
    clear h h0
    go_enter Try.func32, Try.ntmps32
    go_wp2_with (go_at_call 55; refine TH.out.mono ?_; rintro e w' ⟨rfl, rfl⟩)
    go_ret
    refine ⟨by rw [E.out]; rfl, ?_⟩
    rw [V.out]
    exact Left.refl H.out

/-- maps.Clone's contract. -/
def CloneOk : Prop := ∀ (b n : Nat) (D : DataW Value) (w : World), w.ownsMap Try.prog 9 raw b n D → Calls Try.prog 40 #[.map (some b)] w fun e w' =>
  e = .returned (.map (some w.heap.size)) ∧ w'.ownsMap Try.prog 9 raw w.heap.size n D ∧ w'.ownsMap Try.prog 9 raw b n D ∧ Below w.heap.size w w'

theorem DiskAt.sure {w : World} {L : Lay} {D : DiskS} (h : DiskAt w L D) {ms : Nat} {w' : World} (hms : w'.ownsMap Try.prog 9 raw ms D.names.length (mapD (nodeV L.bs) D.names)) (hb : Below w.heap.size w w') (hge : w.heap.size ≤ ms) (hne : L.mn ≠ ms) :
    DiskAt ((w'.setCell ⟨L.p, 2, none⟩ (.map (some ms))).setCell ⟨L.p, 3, none⟩ (.slice none 0 0)) { L with ms := ms, pv := .slice none 0 0 } { D with last := D.names, pending := [] } ∧
      Only L.foot w ((w'.setCell ⟨L.p, 2, none⟩ (.map (some ms))).setCell ⟨L.p, 3, none⟩ (.slice none 0 0)) := by
  have h1 := h.below hb (Nat.le_refl _)
  have ho : Only (· = L.p) w' ((w'.setCell ⟨L.p, 2, none⟩ (.map (some ms))).setCell ⟨L.p, 3, none⟩ (.slice none 0 0)) := ((Only.refl (· = L.p) w').setCell (p := ⟨L.p, 2, none⟩) (.inl rfl) _).setCell (p := ⟨L.p, 3, none⟩) (.inl rfl) _
  obtain ⟨p1, p2, p3, p4, p5⟩ := h.p_ne
  refine ⟨?_, (Only.of_below hb).trans ho (fun _ e => .inl (.inl e))⟩
  exact {
    blk := (h1.blk.set 2 _).set 3 _
    names := map_only h1.names ho p1
    last := map_only hms ho (fun e => by have := h.blk.lt; dsimp only at e; omega)
    ne := hne
    nodes := fun i hi => (h1.nodes i hi).only ho (h.node_ne hi).1
    nlen := h.nlen
    nodup := h.nodup
    pend := World.ownsRow_nil _ _ _ _
    ok := ⟨h.ok.len, h.ok.names, h.ok.names, fun t ht => by simp at ht, fun t ht => by simp at ht, fun t ht => by simp at ht⟩
    fuse := h.fuse
    steps := h.steps
    room := h.room
    npend := by simp }

set_option maxRecDepth 100000 in
set_option maxHeartbeats 1600000 in
theorem syncdir_any (hc : CloneOk) (w : World) (L : Lay) (D : DiskS) (h : DiskAt w L D) (hst : D.steps < 999999999) :
    Calls Try.prog 33 #[.pointer (some ⟨L.p, 0, none⟩)] w fun e w' => e = .returned (.int .i64 (syncDirE D)) ∧ Left w L (syncDirD D) w' := by
  have H := Lib.hid h
  have c6 : w.cell? ⟨L.p, 6, none⟩ = some (.bool D.down) := h.blk.cell 6
  have ON := Lib.hid (on_any w L.p D.down c6)
  have E : Hid (syncDirE D = if D.down then 15 else stepE D) := Lib.hid rfl
  have V : Hid (syncDirD D = if D.down then D else if D.fuse = 0 then stepD D else { stepD D with last := D.names, pending := [] }) := Lib.hid rfl
  clear c6
  cases hd : D.down with
  | true =>
    simp only [hd, if_true] at E V ON
    clear h
    go_enter Try.func33, Try.ntmps33
    go_wp2_with (go_at_call 35; refine ON.out.mono ?_; rintro e w' ⟨rfl, rfl⟩)
    go_ret
    refine ⟨by rw [E.out]; rfl, ?_⟩
    rw [V.out]
    exact Left.refl H.out
  | false =>
    simp only [hd, Bool.false_eq_true, if_false] at E V ON
    clear hd
    by_cases hfu : D.fuse = 0
    · have ST := Lib.hid (step_no w L D h hst hfu)
      have Hfu := Lib.hid hfu
      clear h hfu
      go_enter Try.func33, Try.ntmps33
      go_wp2_with (first | (go_at_call 35; refine ON.out.mono ?_; rintro e w' ⟨rfl, rfl⟩) | (go_at_call 52; refine ST.out.mono ?_; rintro e w2 ⟨rfl, h2, ho2⟩; have H2 := Lib.hid h2; have HO2 := Lib.hid ho2; clear h2 ho2))
      go_ret
      refine ⟨by rw [E.out, stepE, if_pos Hfu.out]; rfl, ?_⟩
      rw [V.out, if_pos Hfu.out]
      exact Left.of H2.out (only_p HO2.out)
    · have ST := Lib.hid (step_yes w L D h hst hfu)
      have Hfu := Lib.hid hfu
      clear h hfu
      go_enter Try.func33, Try.ntmps33
      go_wp2_with (first | (go_at_call 35; refine ON.out.mono ?_; rintro e w' ⟨rfl, rfl⟩) | (go_at_call 52; refine ST.out.mono ?_; rintro e w2 ⟨rfl, h2, ho2⟩; have d1 : w2.cell? ⟨L.p, 1, none⟩ = some (.map (some L.mn)) := h2.blk.cell 1; have H2 := Lib.hid h2; have HO2 := Lib.hid ho2; clear h2 ho2))
      refine (hc _ _ _ _ H2.out.names).mono ?_
      rintro e w3 ⟨rfl, hn3, hm3, hb3⟩
      have hB := H2.out.blk.below hb3 H2.out.blk.lt
      have f2 := hB.free 2
      have f3 := hB.free 3
      obtain ⟨u2, k2⟩ := hB.at 2 (by simp [diskC])
      obtain ⟨u3, k3⟩ := hB.at 3 (by simp [diskC])
      have H3 := Lib.hid (H2.out.sure hn3 hb3 (Nat.le_refl _) (Nat.ne_of_lt H2.out.names.lt))
      clear hn3 hm3 hB d1
      go_wp2
      go_ret
      refine ⟨by rw [E.out, stepE, if_neg Hfu.out]; rfl, ?_⟩
      rw [V.out, if_neg Hfu.out]
      have h3 := H3.out.1
      have ho3 := H3.out.2
      simp only [stepD_names] at h3 ⊢
      have l2 := HO2.out.size
      refine ⟨{ L with ms := w2.heap.size, pv := .slice none 0 0 }, rfl, h3, (only_p HO2.out).trans ho3 (fun _ e => .inl e), fun b hb => ?_⟩
      rcases hb with e | e | e | e | e
      · exact .inl (.inl e)
      · exact .inl (.inr (.inl e))
      · right; dsimp only at e; omega
      · exact .inl (.inr (.inr (.inr (.inl e))))
      · simp [Value.ownBlock] at e

theorem read_any (w : World) (L : Lay) (D : DiskS) (s : Str) (h : DiskAt w L D) (hs : s.length ≤ maxLen) :
    Calls Try.prog 34 #[.pointer (some ⟨L.p, 0, none⟩), str s] w fun e w' => e = .returned (.tuple #[str (readT D s), .int .i64 (readE D s)]) ∧ w = w' := by
  have E : Hid (readE D s = thereE D s) := Lib.hid rfl
  have T : Hid (readT D s = if thereE D s = 0 then (match findN s D.names with | some n => D.now.getD n [] | none => []) else []) := Lib.hid rfl
  rcases there_cases D s with ⟨h0, hd, n, hf⟩ | h0 | h0
  · have TH := Lib.hid (there_yes w L D h s hs n _ hd hf rfl)
    have hi := find_lt h hf
    have cn : w.cell? ⟨L.bs.getD n 0, 0, none⟩ = some (str (D.now.getD n [])) := (h.nodes n hi).cell 0
    generalize L.bs.getD n 0 = nb at TH cn
    simp only [h0, if_true, hf] at E T
    generalize D.now.getD n [] = tx at cn T
    clear h h0 hd hf
    go_enter Try.func34, Try.ntmps34
    go_wp2_with (go_at_call 55; refine TH.out.mono ?_; rintro e w' ⟨rfl, rfl⟩)
    go_ret2
    exact ⟨by rw [E.out, T.out]; rfl, rfl⟩
  all_goals
    have TH := Lib.hid (there_no w L D h s hs _ h0 (by decide))
    simp only [h0, Nat.reduceEqDiff, if_false] at E T
    clear h h0
    go_enter Try.func34, Try.ntmps34
    go_wp2_with (go_at_call 55; refine TH.out.mono ?_; rintro e w' ⟨rfl, rfl⟩)
    go_ret2
    exact ⟨by rw [E.out, T.out]; rfl, rfl⟩

def fuseD (D : DiskS) (n : Int) : DiskS := { D with fuse := max n (-1) }
theorem fuse_any (w : World) (L : Lay) (D : DiskS) (n : Int) (h : DiskAt w L D) (hn : -1000000 ≤ n) (hn2 : n < 1000000) :
    Calls Try.prog 16 #[.pointer (some ⟨L.p, 0, none⟩), .int .i64 n] w fun e w' => e = .returned (.tuple #[]) ∧ DiskAt w' L (fuseD D n) ∧ Only L.foot w w' := by
  have c5 : w.cell? ⟨L.p, 5, none⟩ = some (.int .i64 D.fuse) := h.blk.cell 5
  have f5 := h.blk.free 5
  have H := Lib.hid h
  have V : Hid (fuseD D n = { D with fuse := max n (-1) }) := Lib.hid rfl
  clear h
  go_enter Try.func16, Try.ntmps16
  go_wp2
  all_goals
    (try simp only [Act.put]); first | refine bodyPost_ret (results_none rfl _ _ _) rfl ?_ | refine bodyPost_end (results_none rfl _ _ _) rfl ?_
    refine ⟨rfl, ?_⟩
    rw [V.out]
  all_goals
    first | rw [show max n (-1) = -1 by omega] | rw [show max n (-1) = n by omega]
    have ho := (Only.refl (· = L.p) w).setCell (p := ⟨L.p, 5, none⟩) (.inl rfl)
    refine ⟨?_, only_p (ho _)⟩
    exact H.out.turn (ho _) (H.out.blk.set 5 _) ⟨by omega, by omega⟩ H.out.steps
theorem down_any (w : World) (L : Lay) (D : DiskS) (h : DiskAt w L D) :
    Calls Try.prog 17 #[.pointer (some ⟨L.p, 0, none⟩)] w fun e w' => e = .returned (.bool D.down) ∧ w = w' := by
  have c6 : w.cell? ⟨L.p, 6, none⟩ = some (.bool D.down) := h.blk.cell 6
  clear h
  go_enter Try.func17, Try.ntmps17
  go_wp2
  go_ret
  exact ⟨rfl, rfl⟩
theorem new_any (w : World) (n : Nat) (hn : n ≤ 65536) :
    Calls Try.prog 11 #[.int .i64 n] w fun e w' => ∃ L, e = .returned (.tuple #[.pointer (some ⟨L.p, 0, none⟩), .int .i64 0]) ∧ DiskAt w' L (newD n) ∧ Below w.heap.size w w' ∧ ∀ b, L.foot b → w.heap.size ≤ b := by
  have hmm := @run_makeMap Try.prog
  go_enter Try.func11, Try.ntmps11
  go_wp2
  go_ret2
  refine ⟨⟨w.heap.size + 2, w.heap.size, w.heap.size + 1, .slice none 0 0, []⟩, rfl, ?_, (((Below.refl _ _).alloc (Nat.le_refl _) _).alloc (by simp) _).alloc (by simp; omega) _, ?_⟩
  · have m1 : ((w.alloc (.map #[] 0))).ownsMap Try.prog 9 raw w.heap.size 0 (mapD (nodeV []) []) := World.ownsMap_made w _ _ _
    have m2 : (((w.alloc (.map #[] 0))).alloc (.map #[] 0)).ownsMap Try.prog 9 raw (w.heap.size + 1) 0 (mapD (nodeV []) []) := by
      have := World.ownsMap_made (H := Value) (w.alloc (.map #[] 0)) Try.prog 9 raw
      rw [size_alloc'] at this
      exact this
    exact {
      blk := Blk.new' (by simp) _ _
      names := (m1.alloc _).alloc _
      last := m2.alloc _
      ne := by simp
      nodes := fun i hi => by simp at hi
      nlen := rfl
      nodup := List.nodup_nil
      pend := World.ownsRow_nil _ _ _ _
      ok := ⟨rfl, fun p hp => by simp [newD] at hp, fun p hp => by simp [newD] at hp, fun p hp => by simp [newD] at hp, fun p hp => by simp [newD] at hp, fun p hp => by simp [newD] at hp⟩
      fuse := by simp [newD]
      steps := by simp [newD]
      room := hn
      npend := by simp [newD] }
  · rintro b (e | e | e | e | e)
    · dsimp only at e; omega
    · dsimp only at e; omega
    · dsimp only at e; omega
    · simp at e
    · simp [Value.ownBlock] at e
end Go.Proofs.Ytkbmhghellimcaa
