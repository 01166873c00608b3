/- The walk of (*Disk).Write. -/
import Derived.Test.YtkbmhghellimcaaDskf
namespace Go.Proofs.Ytkbmhghellimcaa
open Go.RowKit
open Go.Maps (Keyed)
attribute [local go_sem] size_str get_str

section
variable (D : DiskS)
theorem stepD_now : (stepD D).now = D.now := by unfold stepD; split <;> rfl
theorem stepD_sure : (stepD D).sure = D.sure := by unfold stepD; split <;> rfl
theorem stepD_names : (stepD D).names = D.names := by unfold stepD; split <;> rfl
theorem stepD_last : (stepD D).last = D.last := by unfold stepD; split <;> rfl
theorem stepD_pending : (stepD D).pending = D.pending := by unfold stepD; split <;> rfl
theorem stepD_steps : (stepD D).steps ≤ D.steps + 1 := by unfold stepD; split <;> simp
end

/-- What a goto of Write bears: the error, and the disk. -/
def WFin (w : World) (L : Lay) (E : Nat) (D' : DiskS) (e : Int) (w' : World) : Prop := e = (E : Int) ∧ Left w L D' w'
theorem size_alloc' (w : World) (o : Obj) : (w.alloc o).heap.size = w.heap.size + 1 := by simp
theorem le_sum_mem : ∀ {l : List Nat} {x : Nat}, x ∈ l → x ≤ l.sum
  | [], _, h => by simp at h
  | y :: r, x, h => by
    rw [List.sum_cons]
    rcases List.mem_cons.1 h with rfl | h
    · omega
    · have := le_sum_mem h; omega
theorem ret_i64 {a b : Int} (h : a = b) : Ending.returned (.int .i64 a) = .returned (.int .i64 b) := by rw [h]

set_option maxRecDepth 100000 in
set_option maxHeartbeats 3200000 in
theorem write_any (w : World) (L : Lay) (D : DiskS) (s t : Str) (h : DiskAt w L D) (hs : s.length ≤ maxLen) (ht : t.length < 1000000) (hu : usedD D < 1000000) (hst : D.steps < 999999999) (hl : D.names.length < 1000000) (hp : D.pending.length < 999998)
    (hcl : ∀ W, Calls Try.prog 54 #[str t] W fun e W' => e = .returned (str t) ∧ Below W.heap.size W W') :
    Calls Try.prog 30 #[.pointer (some ⟨L.p, 0, none⟩), str s, str t] w fun e w' => e = .returned (.int .i64 (writeE D s t)) ∧ Left w L (writeD D s t) w' := by
  have c0 : w.cell? ⟨L.p, 0, none⟩ = some (.int .i64 D.room) := h.blk.cell 0
  have c1 : w.cell? ⟨L.p, 1, none⟩ = some (.map (some L.mn)) := h.blk.cell 1
  have c6 : w.cell? ⟨L.p, 6, none⟩ = some (.bool D.down) := h.blk.cell 6
  have hon := on_any w L.p D.down c6
  have H := Lib.hid h
  have HU := Lib.hid (show usedD D < 1000000000 by omega)
  have HCL := Lib.hid hcl
  have WE : Hid (writeE D s t = if D.down then 15 else if nameB s = false then 2 else match findN s D.names with
    | none => if 16 ≤ D.names.length then 17 else if D.room < usedD D + t.length then 16 else stepE D
    | some n => if D.room + (D.now.getD n []).length < usedD D + t.length then 16 else stepE D) := Lib.hid rfl
  have WD : Hid (writeD D s t = if D.down then D else if nameB s = false then D else match findN s D.names with
    | none => if 16 ≤ D.names.length then D else if D.room < usedD D + t.length then D else if D.fuse = 0 then stepD D else
        turnedD { stepD D with now := D.now ++ [t], sure := D.sure ++ [[]] } ⟨1, [], s, D.now.length⟩
    | some n => if D.room + (D.now.getD n []).length < usedD D + t.length then D else if D.fuse = 0 then stepD D else { stepD D with now := D.now.set n t }) := Lib.hid rfl
  have hroom := h.room
  have hlen : (Builtin.len_ #[61] 3 #[.map (some L.mn)]).run Try.prog w = .ok (.int .i64 (D.names.length : Int)) w := by
    have := h.names.len Try.underlying61 3
    rw [size_mapD] at this
    exact this
  have Hlen := Lib.hid hlen
  clear hlen
  clear h hcl
  go_enter Try.func30, Try.ntmps30
  go_wp2_with fail
  refine wp_scope_on 0 (fun a' w' => a'.tmps.size = 76 ∧ a'.defers = [] ∧ ∃ e : Int, a'.tmps.getD 7 undef = .int .i64 e ∧ WFin w L (writeE D s t) (writeD D s t) e w') rfl ?_ ?_
  · rintro a' w' ⟨h1, h2, e, h7, hfin⟩
    have HF := Lib.hid hfin
    clear hfin
    refine frame_of 76 h1 h2 7 _ h7 (fun f h7 => ?_)
    change Code.wp _ _ _ { tmps := #[f 0, f 1, f 2, f 3, f 4, f 5, f 6, f 7, f 8, f 9, f 10, f 11, f 12, f 13, f 14, f 15, f 16, f 17, f 18, f 19, f 20, f 21, f 22, f 23, f 24, f 25, f 26, f 27, f 28, f 29, f 30, f 31, f 32, f 33, f 34, f 35, f 36, f 37, f 38, f 39, f 40, f 41, f 42, f 43, f 44, f 45, f 46, f 47, f 48, f 49, f 50, f 51, f 52, f 53, f 54, f 55, f 56, f 57, f 58, f 59, f 60, f 61, f 62, f 63, f 64, f 65, f 66, f 67, f 68, f 69, f 70, f 71, f 72, f 73, f 74, f 75], defers := [] } _
    rw [h7]
    clear h7 h1 h2
    go_wp2
    simp only [Exit.jump]
    go_ret
    exact ⟨ret_i64 HF.out.1, HF.out.2⟩
  · cases hd : D.down
    · simp only [hd, if_false, Bool.false_eq_true] at WE WD hon
      cases hn : nameB s
      · have hn' := hn
        simp only [hn, if_true] at WE WD
        go_wp2_with (first | (go_at_call 35; refine hon.mono ?_; rintro e w' ⟨rfl, rfl⟩) | (go_at_call 50; refine (name_any _ s).mono ?_; rintro e w' ⟨rfl, rfl⟩))
        apply wp_goto; refine ⟨rfl, rfl, rfl, _, rfl, ?_, ?_⟩
        · rw [WE.out]; rfl
        · rw [WD.out]; exact Left.refl H.out
      · simp only [hn, Bool.true_eq_false, if_false] at WE WD
        cases hf : findN s D.names with
        | none =>
          simp only [hf] at WE WD
          have Hf := Lib.hid hf
          clear hf
          by_cases h16 : 16 ≤ D.names.length
          · simp only [h16, if_true] at WE WD
            go_wp2_with (first | (go_at_call 35; refine hon.mono ?_; rintro e w' ⟨rfl, rfl⟩) | (go_at_call 50; refine (name_any _ s).mono ?_; rintro e w' ⟨rfl, rfl⟩) | (at_lookup; refine look_none _ rfl _ _ rfl L.mn _ _ _ rfl H.out.names s rfl hs Hf.out ?_))
            rw [Hlen.out]
            simp only [Result.andThen]
            rw [Oper.upon_value]
            go_wp2
            apply wp_goto; refine ⟨rfl, rfl, rfl, _, rfl, ?_, ?_⟩
            · rw [WE.out]; rfl
            · rw [WD.out]; exact Left.refl H.out
          · simp only [h16, if_false] at WE WD
            by_cases hr : D.room < usedD D + t.length
            · simp only [hr, if_true] at WE WD
              go_wp2_with (first | (go_at_call 35; refine hon.mono ?_; rintro e w' ⟨rfl, rfl⟩) | (go_at_call 50; refine (name_any _ s).mono ?_; rintro e w' ⟨rfl, rfl⟩) | (at_lookup; refine look_none _ rfl _ _ rfl L.mn _ _ _ rfl H.out.names s rfl hs Hf.out ?_))
              rw [Hlen.out]
              simp only [Result.andThen]
              rw [Oper.upon_value]
              go_wp2_with (go_at_call 51; refine (used_any _ L D H.out HU.out).mono ?_; rintro e w1 ⟨rfl, ho1⟩; have H1 := Lib.hid (H.out.kept ho1 (fun _ _ => id)); have HO1 := Lib.hid ho1; clear ho1; have r0 : w1.cell? ⟨L.p, 0, none⟩ = some (.int .i64 D.room) := H1.out.blk.cell 0)
              apply wp_goto; refine ⟨rfl, rfl, rfl, _, rfl, ?_, ?_⟩
              · rw [WE.out]; rfl
              · rw [WD.out]; exact Left.of H1.out (HO1.out.mono (fun _ _ e => e.elim))
            · simp only [hr, if_false] at WE WD
              by_cases h0 : D.fuse = 0
              · simp only [h0, if_true] at WD
                have Hse := Lib.hid (show stepE D = 15 by simp [stepE, h0])
                clear h0
                go_wp2_with (first | (go_at_call 35; refine hon.mono ?_; rintro e w' ⟨rfl, rfl⟩) | (go_at_call 50; refine (name_any _ s).mono ?_; rintro e w' ⟨rfl, rfl⟩) | (at_lookup; refine look_none _ rfl _ _ rfl L.mn _ _ _ rfl H.out.names s rfl hs Hf.out ?_))
                rw [Hlen.out]
                simp only [Result.andThen]
                rw [Oper.upon_value]
                go_wp2_with (first | (go_at_call 51; refine (used_any _ L D H.out HU.out).mono ?_; rintro e w1 ⟨rfl, ho1⟩; have H1 := Lib.hid (H.out.kept ho1 (fun _ _ => id)); have HO1 := Lib.hid ho1; clear ho1; have r0 : w1.cell? ⟨L.p, 0, none⟩ = some (.int .i64 D.room) := H1.out.blk.cell 0) | (go_at_call 52; have hstp := step_any w1 L D H1.out hst; rw [Hse.out] at hstp; refine hstp.mono ?_; clear hstp; rintro e w2 ⟨rfl, h2, ho2⟩; have H2 := Lib.hid h2; have HO2 := Lib.hid ho2; clear h2 ho2))
                apply wp_goto; refine ⟨rfl, rfl, rfl, _, rfl, ?_, ?_⟩
                · rw [WE.out, Hse.out]; rfl
                · rw [WD.out]; exact Left.of H2.out ((HO1.out.mono (fun _ _ e => e.elim)).trans HO2.out (fun _ e => .inl (.inl e)))
              · simp only [h0, if_false] at WD
                have Hse := Lib.hid (show stepE D = 0 by simp [stepE, h0])
                clear h0
                go_wp2_with (first | (go_at_call 35; refine hon.mono ?_; rintro e w' ⟨rfl, rfl⟩) | (go_at_call 50; refine (name_any _ s).mono ?_; rintro e w' ⟨rfl, rfl⟩) | (at_lookup; refine look_none _ rfl _ _ rfl L.mn _ _ _ rfl H.out.names s rfl hs Hf.out ?_))
                rw [Hlen.out]
                simp only [Result.andThen]
                rw [Oper.upon_value]
                go_wp2_with (first | (go_at_call 51; refine (used_any _ L D H.out HU.out).mono ?_; rintro e w1 ⟨rfl, ho1⟩; have H1 := Lib.hid (H.out.kept ho1 (fun _ _ => id)); have HO1 := Lib.hid ho1; clear ho1; have r0 : w1.cell? ⟨L.p, 0, none⟩ = some (.int .i64 D.room) := H1.out.blk.cell 0) | (go_at_call 52; have hstp := step_any w1 L D H1.out hst; rw [Hse.out] at hstp; refine hstp.mono ?_; clear hstp; rintro e w2 ⟨rfl, h2, ho2⟩; have H2 := Lib.hid h2; have HO2 := Lib.hid ho2; clear h2 ho2))
                have hbl := H.out.nlen
                have h3 : DiskAt (w2.alloc (.cells #[.string { data := #[] }, .string { data := #[] }] 79)) { L with bs := L.bs ++ [w2.heap.size] } { stepD D with now := (stepD D).now ++ [[]], sure := (stepD D).sure ++ [[]] } := H2.out.addNode
                have htd := turned_any _ _ _ h3 ⟨1, [], s, L.bs.length⟩ ⟨by simp, hs, .inl rfl, fun _ => by simp [stepD_now, hbl]⟩ (by show (stepD D).names.length < _; rw [stepD_names]; exact hl) (by show (stepD D).pending.length < _; rw [stepD_pending]; omega)
                rw [show (turnV (L.bs ++ [w2.heap.size]) ⟨1, [], s, L.bs.length⟩).toArray = #[.int .i64 1, .string { data := #[] }, str s, .pointer (some ⟨w2.heap.size, 0, none⟩)] by unfold turnV; rw [if_pos rfl, nodeV_last]; rfl] at htd
                refine htd.mono ?_
                clear htd
                rintro e w3 ⟨rfl, pv, h4, ho4, hpv⟩
                go_wp2_with fail
                refine (HCL.out _).mono ?_
                rintro e w4 ⟨rfl, hb4⟩
                have h5 := h4.below hb4 (Nat.le_refl _)
                have hi5 : L.bs.length < (L.bs ++ [w2.heap.size]).length := by simp
                have hgd : (L.bs ++ [w2.heap.size]).getD L.bs.length 0 = w2.heap.size := by rw [List.getD_eq_getElem?_getD, List.getElem?_append_right (Nat.le_refl _)]; simp
                have h6 := h5.setNow hi5 t
                have hB := h5.nodes _ hi5
                simp only [hgd] at h6 hB
                have f6 := hB.free 0
                have c6' := hB.at 0 (by simp)
                obtain ⟨u6, cN⟩ := c6'
                have H6 := Lib.hid h6
                clear h6 hB h5
                go_wp2
                apply wp_label
                rename_i hK
                refine hK _ _ ?_
                go_wp2
                simp only [Exit.jump]
                go_ret
                refine ⟨by rw [WE.out, Hse.out]; rfl, ?_⟩
                rw [WD.out]
                have hnw : ((stepD D).now ++ [[]]).set D.now.length t = D.now ++ [t] := by
                  rw [stepD_now, List.set_append_right _ _ (Nat.le_refl _)]
                  simp
                have h7 := H6.out.1
                have ho7 := H6.out.2
                simp only [turnedD, stepD_sure, hbl, hnw] at h7 ⊢
                have l1 := HO1.out.size
                have l2 := HO2.out.size
                have l3 := ho4.size
                simp only [size_alloc'] at l3
                have g : ∀ b, Lay.foot { L with bs := L.bs ++ [w2.heap.size] } b → L.foot b ∨ w.heap.size ≤ b := fun b hb => by
                  rcases hb with e | e | e | e | e
                  · exact .inl (.inl e)
                  · exact .inl (.inr (.inl e))
                  · exact .inl (.inr (.inr (.inl e)))
                  · rcases List.mem_append.1 e with e | e
                    · exact .inl (.inr (.inr (.inr (.inl e))))
                    · right; simp at e; omega
                  · exact .inl (.inr (.inr (.inr (.inr e))))
                have g' : ∀ b, Lay.foot { L with pv := pv, bs := L.bs ++ [w2.heap.size] } b → L.foot b ∨ w.heap.size ≤ b := fun b hb => by
                  rcases hb with e | e | e | e | e
                  · exact .inl (.inl e)
                  · exact .inl (.inr (.inl e))
                  · exact .inl (.inr (.inr (.inl e)))
                  · exact g b (.inr (.inr (.inr (.inl e))))
                  · rcases hpv with h | ⟨g2, h, hg2⟩
                    · exact .inl (.inr (.inr (.inr (.inr (by rw [← h]; exact e)))))
                    · right
                      rw [show pv.ownBlock = some b from e] at h
                      injection h with h
                      simp only [size_alloc'] at hg2
                      omega
                refine ⟨{ L with pv := pv, bs := L.bs ++ [w2.heap.size] }, rfl, h7, ?_, g'⟩
                exact ((((((HO1.out.mono (fun _ _ e => e.elim)).trans HO2.out (fun _ e => .inl (.inl e))).alloc _).trans ho4 g).below hb4 (by omega)).trans ho7 g')
        | some n =>
          simp only [hf] at WE WD
          have Hf := Lib.hid hf
          have hnb' : n < L.bs.length := by obtain ⟨p, hp, rfl⟩ := find_mem hf; rw [H.out.nlen]; exact H.out.ok.names p hp
          clear hf
          obtain ⟨nb, hnb⟩ : ∃ nb, L.bs.getD n 0 = nb := ⟨_, rfl⟩
          obtain ⟨tx, htx⟩ : ∃ tx, D.now.getD n [] = tx := ⟨_, rfl⟩
          have Hnb := Lib.hid hnb
          have Htx := Lib.hid htx
          rw [htx] at WE WD
          have hle : tx.length ≤ usedD D := by
            rw [← htx]
            obtain ⟨p, hp, hp2⟩ := find_mem Hf.out
            unfold usedD
            rw [← hp2]
            exact le_sum_mem (List.mem_map.2 ⟨p, hp, rfl⟩)
          clear hnb htx
          by_cases hr : D.room + tx.length < usedD D + t.length
          · simp only [hr, if_true] at WE WD
            go_wp2_with (first | (go_at_call 35; refine hon.mono ?_; rintro e w' ⟨rfl, rfl⟩) | (go_at_call 50; refine (name_any _ s).mono ?_; rintro e w' ⟨rfl, rfl⟩) | (at_lookup; refine look_some _ rfl _ _ rfl L.mn _ _ _ rfl H.out.names s rfl hs n Hf.out (.pointer (some ⟨nb, 0, none⟩)) (by rw [← Hnb.out]; rfl) ?_) | (go_at_call 51; refine (used_any _ L D H.out HU.out).mono ?_; rintro e w1 ⟨rfl, ho1⟩; have H1 := Lib.hid (H.out.kept ho1 (fun _ _ => id)); have HO1 := Lib.hid ho1; clear ho1; have r0 : w1.cell? ⟨L.p, 0, none⟩ = some (.int .i64 D.room) := H1.out.blk.cell 0; have rN : w1.cell? ⟨nb, 0, none⟩ = some (str tx) := by rw [← Hnb.out, ← Htx.out]; exact (H1.out.nodes n hnb').cell 0))
            apply wp_goto; refine ⟨rfl, rfl, rfl, _, rfl, ?_, ?_⟩
            · rw [WE.out]; rfl
            · rw [WD.out]; exact Left.of H1.out (HO1.out.mono (fun _ _ e => e.elim))
          · simp only [hr, if_false] at WE WD
            by_cases h0 : D.fuse = 0
            · simp only [h0, if_true] at WD
              have Hse := Lib.hid (show stepE D = 15 by simp [stepE, h0])
              clear h0
              go_wp2_with (first | (go_at_call 35; refine hon.mono ?_; rintro e w' ⟨rfl, rfl⟩) | (go_at_call 50; refine (name_any _ s).mono ?_; rintro e w' ⟨rfl, rfl⟩) | (at_lookup; refine look_some _ rfl _ _ rfl L.mn _ _ _ rfl H.out.names s rfl hs n Hf.out (.pointer (some ⟨nb, 0, none⟩)) (by rw [← Hnb.out]; rfl) ?_) | (go_at_call 51; refine (used_any _ L D H.out HU.out).mono ?_; rintro e w1 ⟨rfl, ho1⟩; have H1 := Lib.hid (H.out.kept ho1 (fun _ _ => id)); have HO1 := Lib.hid ho1; clear ho1; have r0 : w1.cell? ⟨L.p, 0, none⟩ = some (.int .i64 D.room) := H1.out.blk.cell 0; have rN : w1.cell? ⟨nb, 0, none⟩ = some (str tx) := by rw [← Hnb.out, ← Htx.out]; exact (H1.out.nodes n hnb').cell 0) | (go_at_call 52; have hstp := step_any w1 L D H1.out hst; rw [Hse.out] at hstp; refine hstp.mono ?_; clear hstp; rintro e w2 ⟨rfl, h2, ho2⟩; have H2 := Lib.hid h2; have HO2 := Lib.hid ho2; clear h2 ho2))
              apply wp_goto; refine ⟨rfl, rfl, rfl, _, rfl, ?_, ?_⟩
              · rw [WE.out, Hse.out]; rfl
              · rw [WD.out]; exact Left.of H2.out ((HO1.out.mono (fun _ _ e => e.elim)).trans HO2.out (fun _ e => .inl (.inl e)))
            · simp only [h0, if_false] at WD
              have Hse := Lib.hid (show stepE D = 0 by simp [stepE, h0])
              clear h0
              go_wp2_with (first | (go_at_call 35; refine hon.mono ?_; rintro e w' ⟨rfl, rfl⟩) | (go_at_call 50; refine (name_any _ s).mono ?_; rintro e w' ⟨rfl, rfl⟩) | (at_lookup; refine look_some _ rfl _ _ rfl L.mn _ _ _ rfl H.out.names s rfl hs n Hf.out (.pointer (some ⟨nb, 0, none⟩)) (by rw [← Hnb.out]; rfl) ?_) | (go_at_call 51; refine (used_any _ L D H.out HU.out).mono ?_; rintro e w1 ⟨rfl, ho1⟩; have H1 := Lib.hid (H.out.kept ho1 (fun _ _ => id)); have HO1 := Lib.hid ho1; clear ho1; have r0 : w1.cell? ⟨L.p, 0, none⟩ = some (.int .i64 D.room) := H1.out.blk.cell 0; have rN : w1.cell? ⟨nb, 0, none⟩ = some (str tx) := by rw [← Hnb.out, ← Htx.out]; exact (H1.out.nodes n hnb').cell 0) | (go_at_call 52; have hstp := step_any w1 L D H1.out hst; rw [Hse.out] at hstp; refine hstp.mono ?_; clear hstp; rintro e w2 ⟨rfl, h2, ho2⟩; have H2 := Lib.hid h2; have HO2 := Lib.hid ho2; clear h2 ho2))
              refine (HCL.out _).mono ?_
              rintro e w4 ⟨rfl, hb4⟩
              have h5 := H2.out.below hb4 (Nat.le_refl _)
              have h6 := h5.setNow hnb' t
              have hB := h5.nodes _ hnb'
              simp only [Hnb.out] at h6 hB
              have f6 := hB.free 0
              have c6' := hB.at 0 (by simp)
              obtain ⟨u6, cN⟩ := c6'
              have H6 := Lib.hid h6
              clear h6 hB h5
              go_wp2
              apply wp_label
              rename_i hK
              refine hK _ _ ?_
              go_wp2
              simp only [Exit.jump]
              go_ret
              refine ⟨by rw [WE.out, Hse.out]; rfl, ?_⟩
              rw [WD.out]
              have h7 := H6.out.1
              have ho7 := H6.out.2
              rw [stepD_now] at h7
              exact Left.of h7 ((((HO1.out.mono (fun _ _ e => e.elim)).trans HO2.out (fun _ e => .inl (.inl e))).below hb4 (by have := HO1.out.size; have := HO2.out.size; omega)).trans ho7 (fun _ e => .inl e))
    · simp only [hd, if_true] at WE WD hon
      go_wp2_with (go_at_call 35; refine hon.mono ?_; rintro e w' ⟨rfl, rfl⟩)
      apply wp_goto; refine ⟨rfl, rfl, rfl, _, rfl, ?_, ?_⟩
      · rw [WE.out]; rfl
      · rw [WD.out]; exact Left.refl H.out
end Go.Proofs.Ytkbmhghellimcaa
