/- The walks of a turn of names. -/
import Derived.Test.YtkbmhghellimcaaDskc
import Derived.Deep.RegionHeld3
import Derived.Deep.RegionLaw
import Derived.Deep.AppendLies
namespace Go.Proofs.Ytkbmhghellimcaa
open Go.RowKit
open Go.Maps (Keyed)
attribute [local go_sem] size_str get_str

theorem turned_only {w w' : World} {b : Nat} (h : w.mapTurned w' b) : Only (· = b) w w' := (Only.refl _ w).grown h.grown (fun k hk => .inl (by injection hk with e; exact e.symm))

theorem do_any (w : World) (b : Nat) (bs : List Nat) (l : Names) (t : TurnS) (hown : w.ownsMap Try.prog 9 raw b l.length (mapD (nodeV bs) l)) (hl : l.length < 1000000)
    (hs : t.src.length ≤ maxLen) (hd : t.dst.length ≤ maxLen) (hk : t.kind = 1 ∨ t.kind = 2 ∨ t.kind = 3) :
    Calls Try.prog 38 #[.map (some b), .agg (turnV bs t).toArray] w fun e w' => e = .returned (.tuple #[]) ∧ w'.ownsMap Try.prog 9 raw b (doT l t).length (mapD (nodeV bs) (doT l t)) ∧ Only (· = b) w w' := by
  obtain ⟨kind, src, dst, n⟩ := t
  have hml : (1000002 : Nat) < maxLen := by decide
  simp only at hs hd hk
  unfold turnV doT
  simp only
  rcases hk with rfl | rfl | rfl
  · rw [if_pos rfl, if_pos rfl]
    go_enter Try.func38, Try.ntmps38
    go_wp2_with (at_mapUpdate; refine put_names _ rfl _ _ _ rfl b _ (nodeV bs) l rfl (hown.alloc _) dst rfl hd n rfl (by omega) ?_; intro w1 hown1 hg1)
    (try simp only [Act.put]); first | refine bodyPost_ret (results_none rfl _ _ _) rfl ?_ | refine bodyPost_end (results_none rfl _ _ _) rfl ?_
    exact ⟨rfl, names_len _ hown1, ((Only.refl _ _).alloc _).trans (turned_only hg1) (fun _ e => .inl e)⟩
  · cases hf : findN src l with
    | none =>
      have Hf := Lib.hid hf
      clear hf
      go_enter Try.func38, Try.ntmps38
      go_wp2_with (at_lookup; refine look_none _ rfl _ _ rfl b _ (nodeV bs) l rfl (hown.alloc _) src rfl hs Hf.out ?_)
      (try simp only [Act.put]); first | refine bodyPost_ret (results_none rfl _ _ _) rfl ?_ | refine bodyPost_end (results_none rfl _ _ _) rfl ?_
      exact ⟨rfl, hown.alloc _, (Only.refl _ _).alloc _⟩
    | some i =>
      have Hf := Lib.hid hf
      clear hf
      go_enter Try.func38, Try.ntmps38
      go_wp2_with (first | (at_lookup; refine look_some _ rfl _ _ rfl b _ (nodeV bs) l rfl (hown.alloc _) src rfl hs i Hf.out _ rfl ?_) | (at_delete; refine del_names _ rfl _ _ rfl b _ (nodeV bs) l rfl (hown.alloc _) src rfl hs ?_; intro w1 hown1 hg1; have hk0 : w1.cell? ⟨w.heap.size, 0, none⟩ = some (.int .i64 2) := (hg1.grown.cell (a := ⟨w.heap.size, 0, none⟩) (by simp) (by simp; have := hown.lt; omega)); have hk2 : w1.cell? ⟨w.heap.size, 2, none⟩ = some (str dst) := (hg1.grown.cell (a := ⟨w.heap.size, 2, none⟩) (by simp) (by simp; have := hown.lt; omega))) | (at_mapUpdate; refine put_names _ rfl _ _ _ rfl b _ (nodeV bs) _ rfl hown1 dst rfl hd i rfl (by omega) ?_; intro w2 hown2 hg2))
      (try simp only [Act.put]); first | refine bodyPost_ret (results_none rfl _ _ _) rfl ?_ | refine bodyPost_end (results_none rfl _ _ _) rfl ?_
      exact ⟨rfl, names_len _ hown2, (((Only.refl _ _).alloc _).trans (turned_only hg1) (fun _ e => .inl e)).trans (turned_only hg2) (fun _ e => .inl e)⟩
  · cases hf : findN src l with
    | none =>
      have Hf := Lib.hid hf
      clear hf
      go_enter Try.func38, Try.ntmps38
      go_wp2_with (at_lookup; refine look_none _ rfl _ _ rfl b _ (nodeV bs) l rfl (hown.alloc _) src rfl hs Hf.out ?_)
      (try simp only [Act.put]); first | refine bodyPost_ret (results_none rfl _ _ _) rfl ?_ | refine bodyPost_end (results_none rfl _ _ _) rfl ?_
      exact ⟨rfl, hown.alloc _, (Only.refl _ _).alloc _⟩
    | some i =>
      have Hf := Lib.hid hf
      clear hf
      go_enter Try.func38, Try.ntmps38
      go_wp2_with (first | (at_lookup; refine look_some _ rfl _ _ rfl b _ (nodeV bs) l rfl (hown.alloc _) src rfl hs i Hf.out _ rfl ?_) | (at_delete; refine del_names _ rfl _ _ rfl b _ (nodeV bs) l rfl (hown.alloc _) src rfl hs ?_; intro w1 hown1 hg1; have hk0 : w1.cell? ⟨w.heap.size, 0, none⟩ = some (.int .i64 3) := (hg1.grown.cell (a := ⟨w.heap.size, 0, none⟩) (by simp) (by simp; have := hown.lt; omega))))
      (try simp only [Act.put]); first | refine bodyPost_ret (results_none rfl _ _ _) rfl ?_ | refine bodyPost_end (results_none rfl _ _ _) rfl ?_
      exact ⟨rfl, names_len _ hown1, (((Only.refl _ _).alloc _).trans (turned_only hg1) (fun _ e => .inl e))⟩

theorem info_turn : (Try.prog.info? 75).map (fun i => (i.zero, i.size, i.bytes)) = some (some (.agg #[.int .i64 0, .string { data := #[] }, .string { data := #[] }, .pointer none]), 4, 48) := by kernel_rfl
theorem turnV_one (bs : List Nat) (t : TurnS) : ∀ u ∈ turnV bs t, u.oneCell' = true := by
  intro u hu
  simp only [turnV, List.mem_cons, List.not_mem_nil, or_false] at hu
  rcases hu with rfl | rfl | rfl | rfl <;> (try rfl)
  split <;> rfl
structure TurnOk (D : DiskS) (t : TurnS) : Prop where
  src : t.src.length ≤ maxLen
  dst : t.dst.length ≤ maxLen
  kind : t.kind = 1 ∨ t.kind = 2 ∨ t.kind = 3
  num : t.kind = 1 → t.n < D.now.length
theorem find_mem {s : Str} {l : Names} {n : Nat} (h : findN s l = some n) : ∃ p ∈ l, p.2 = n := by
  unfold findN at h
  obtain ⟨p, hp, rfl⟩ := Option.map_eq_some_iff.1 h
  exact ⟨p, List.mem_of_find?_eq_some hp, rfl⟩
theorem mem_insN {x y : Str × Nat} : ∀ {l : Names}, y ∈ insN x l → y = x ∨ y ∈ l
  | [], h => .inl (by simpa [insN] using h)
  | z :: r, h => by
    unfold insN at h
    split at h
    · simpa using h
    · rcases List.mem_cons.1 h with rfl | h
      · exact .inr (by simp)
      · rcases mem_insN h with h | h
        · exact .inl h
        · exact .inr (by simp [h])
theorem mem_putN {s : Str} {n : Nat} {y : Str × Nat} {l : Names} (h : y ∈ putN s n l) : y = (s, n) ∨ y ∈ l := by
  rcases mem_insN h with h | h
  · exact .inl h
  · exact .inr (List.mem_filter.1 h).1
theorem mem_doT {l : Names} {t : TurnS} {m : Nat} (hl : ∀ p ∈ l, p.2 < m) (ht : t.kind = 1 → t.n < m) : ∀ p ∈ doT l t, p.2 < m := by
  intro p hp
  unfold doT at hp
  split at hp
  · rename_i h1
    rcases mem_putN hp with rfl | hp
    · exact ht h1
    · exact hl p hp
  · split at hp
    · exact hl p hp
    · rename_i n hf
      obtain ⟨q, hq, rfl⟩ := find_mem hf
      split at hp
      · rcases mem_putN hp with rfl | hp
        · exact hl q hq
        · exact hl p (List.mem_filter.1 hp).1
      · exact hl p (List.mem_filter.1 hp).1
theorem ok_turned {D : DiskS} {t : TurnS} (h : D.Ok) (ht : TurnOk D t) : (turnedD D t).Ok where
  len := h.len
  names := mem_doT h.names ht.num
  last := h.last
  pend u hu := by
    rcases List.mem_append.1 hu with hu | hu
    · exact h.pend u hu
    · obtain rfl : u = t := by simpa using hu
      exact ht.num
  kinds u hu := by
    rcases List.mem_append.1 hu with hu | hu
    · exact h.kinds u hu
    · obtain rfl : u = t := by simpa using hu
      exact ht.kind
  plen u hu := by
    rcases List.mem_append.1 hu with hu | hu
    · exact h.plen u hu
    · obtain rfl : u = t := by simpa using hu
      exact ⟨ht.src, ht.dst⟩

theorem turned_at {w w2 w3 : World} {L : Lay} {D : DiskS} {t : TurnS} {o : Obj} {g cap : Nat} (hD : DiskAt w L D) (ht : TurnOk D t) (hp : D.pending.length < 999999) (ho2 : Only (· = L.mn) (w.alloc o).drew w2)
    (hown2 : w2.ownsMap Try.prog 9 raw L.mn (doT D.names t).length (mapD (nodeV L.bs) (doT D.names t))) (hgrow : (w2.alloc o).drew.grownBy w3 L.pv.ownBlock)
    (hown3 : w3.ownsRow 0 75 4 (.slice (some ⟨g, 0, none⟩) (D.pending.length + 1) cap) (D.pending.length + 1) (D.pending.flatMap (turnV L.bs) ++ turnV L.bs t)) (hat : L.pv.ownBlock = some g ∨ g = w2.heap.size + 1) :
    DiskAt (w3.setCell ⟨L.p, 3, none⟩ (.slice (some ⟨g, 0, none⟩) (D.pending.length + 1) cap)) { L with pv := .slice (some ⟨g, 0, none⟩) (D.pending.length + 1) cap } (turnedD D t) ∧
      Only L.foot w (w3.setCell ⟨L.p, 3, none⟩ (.slice (some ⟨g, 0, none⟩) (D.pending.length + 1) cap)) := by
  obtain ⟨p1, p2, p3, p4, p5⟩ := hD.p_ne
  have lp := hD.blk.lt
  have l2 : w.heap.size + 1 ≤ w2.heap.size := by have := ho2.size; simpa using this
  generalize hv : Value.slice (some ⟨g, 0, none⟩) (D.pending.length + 1) cap = v at *
  have hvo : v.ownBlock = some g := by rw [← hv]; rfl
  have hgp : g ≠ L.p := by
    rcases hat with h1 | h1
    · intro e; exact p3 (by rw [h1, e])
    · omega
  have hA : Only (fun b => L.pv.ownBlock = some b ∨ b = L.p) w2 (w3.setCell ⟨L.p, 3, none⟩ v) := (((((Only.refl _ w2).alloc o).drew).grown hgrow (fun k hk => .inl (.inl hk))).setCell (p := ⟨L.p, 3, none⟩) (.inl (.inr rfl)) v)
  have hB : Only (fun b => b = L.mn ∨ L.pv.ownBlock = some b ∨ b = L.p) w (w3.setCell ⟨L.p, 3, none⟩ v) :=
    (((((Only.refl (fun b => b = L.mn ∨ L.pv.ownBlock = some b ∨ b = L.p) w).alloc o).drew).trans ho2 (fun i e => .inl (.inl e))).trans hA (fun i e => .inl (.inr e)))
  have hC : Only (· = L.mn) w w2 := (((Only.refl (· = L.mn) w).alloc o).drew).trans ho2 (fun i e => .inl e)
  have hBw2 : Blk w2 L.p 64 (diskC L D) := hD.blk.only hC (Ne.symm p1)
  have hBw3 : Blk w3 L.p 64 (diskC L D) := ((hBw2.alloc o).drew).grown hgrow (Ne.symm p3)
  refine ⟨?_, hB.mono (fun i _ e => ?_)⟩
  · exact {
      blk := hBw3.set 3 v
      names := map_only hown2 hA (fun e => by rcases e with e | e; exact p4 e; exact p1 e)
      last := map_only hD.last hB (fun e => by rcases e with e | e | e; exact hD.ne e.symm; exact p5 e; exact p2 e)
      ne := hD.ne
      nodes := fun i hi => (hD.nodes i hi).only hB (fun e => by
        obtain ⟨n1, n2, n3, n4⟩ := hD.node_ne hi
        rcases e with e | e | e
        · exact n2 e
        · exact n4 e
        · exact n1 e)
      nlen := hD.nlen
      nodup := hD.nodup
      pend := by
        have : (turnedD D t).pending.flatMap (turnV L.bs) = D.pending.flatMap (turnV L.bs) ++ turnV L.bs t := by simp [turnedD]
        show World.ownsRow _ 0 _ 4 v (turnedD D t).pending.length ((turnedD D t).pending.flatMap (turnV L.bs))
        rw [this, show (turnedD D t).pending.length = D.pending.length + 1 by simp [turnedD]]
        exact own_only hown3 ((Only.refl (· = L.p) w3).setCell (p := ⟨L.p, 3, none⟩) (.inl rfl) v) (fun i hi e => hgp (by rw [hvo] at hi; injection hi with hi; rw [hi, e]))
      ok := ok_turned hD.ok ht
      fuse := hD.fuse
      steps := hD.steps
      room := hD.room
      npend := by show (turnedD D t).pending.length < _; simp [turnedD]; omega }
  · rcases e with e | e | e
    · exact .inr (.inl e)
    · exact .inr (.inr (.inr (.inr e)))
    · exact .inl e

set_option maxRecDepth 100000 in
set_option maxHeartbeats 1600000 in
theorem turned_any (w : World) (L : Lay) (D : DiskS) (h : DiskAt w L D) (t : TurnS) (ht : TurnOk D t) (hl : D.names.length < 1000000) (hp : D.pending.length < 999999) :
    Calls Try.prog 53 #[.pointer (some ⟨L.p, 0, none⟩), .agg (turnV L.bs t).toArray] w fun e w' => e = .returned (.tuple #[]) ∧ ∃ pv, DiskAt w' { L with pv := pv } (turnedD D t) ∧ Only L.foot w w' ∧ (pv.ownBlock = L.pv.ownBlock ∨ ∃ g, pv.ownBlock = some g ∧ w.heap.size ≤ g) := by
  have c1 : w.cell? ⟨L.p, 1, none⟩ = some (.map (some L.mn)) := h.blk.cell 1
  have c3 : w.cell? ⟨L.p, 3, none⟩ = some L.pv := h.blk.cell 3
  obtain ⟨i0, hi0, hz0, hz1, hz2⟩ := info_parts info_turn
  have H := Lib.hid h
  have T := Lib.hid ht
  obtain ⟨p1, p2, p3, p4, p5⟩ := h.p_ne
  have lp := h.blk.lt
  have lmn := h.names.lt
  clear h ht
  obtain ⟨a3, ha3⟩ : ∃ a3, a3 = (if t.kind = 1 then nodeV L.bs t.n else Value.pointer none) := ⟨_, rfl⟩
  have hv : (turnV L.bs t).toArray = #[.int .i64 t.kind, str t.src, str t.dst, a3] := by rw [ha3]; rfl
  have Hv := Lib.hid hv
  rw [hv]
  clear ha3 hv
  go_enter Try.func53, Try.ntmps53
  go_wp2
  refine still_region 5 (by kernel_rfl) (by kernel_rfl) ?_
  simp only [List.take_succ_cons, List.take_zero, List.drop_succ_cons, List.drop_zero]
  repeat still_step
  refine wpStill_nil ?_
  go_wp2_with fail
  have hdo := do_any ((w.alloc (.cells #[.int .i64 t.kind, str t.src, str t.dst, a3] 75)).drew) L.mn L.bs D.names t (H.out.names.alloc _) hl T.out.src T.out.dst T.out.kind
  rw [Hv.out] at hdo
  refine hdo.mono ?_
  rintro e w2 ⟨rfl, hown2, ho2⟩
  clear hdo
  have BP : Blk w2 L.p 64 (diskC L D) := Blk.only (w := (w.alloc (.cells #[.int .i64 t.kind, str t.src, str t.dst, a3] 75)).drew) (H.out.blk.alloc _) ho2 (Ne.symm p1)
  have BB : Blk w2 w.heap.size 75 #[.int .i64 t.kind, str t.src, str t.dst, a3] := Blk.only (w := (w.alloc (.cells #[.int .i64 t.kind, str t.src, str t.dst, a3] 75)).drew) (Blk.new _ _ _) ho2 (by omega)
  have HP := Lib.hid (own_only (w := (w.alloc (.cells #[.int .i64 t.kind, str t.src, str t.dst, a3] 75)).drew) (H.out.pend.alloc _) ho2 (fun i hi e => p4 (by rw [hi, e])))
  have l2 : w.heap.size + 1 ≤ w2.heap.size := by have := ho2.size; simpa using this
  have d3 : w2.cell? ⟨L.p, 3, none⟩ = some L.pv := BP.cell 3
  have f3 := BP.free 3
  have b0 : w2.cell? ⟨w.heap.size, 0, none⟩ = some (.int .i64 t.kind) := BB.cell 0
  have b1 : w2.cell? ⟨w.heap.size, 1, none⟩ = some (str t.src) := BB.cell 1
  have b2 : w2.cell? ⟨w.heap.size, 2, none⟩ = some (str t.dst) := BB.cell 2
  have b3 : w2.cell? ⟨w.heap.size, 3, none⟩ = some a3 := BB.cell 3
  have H1 : Hid (∀ u ∈ [Value.int .i64 t.kind, str t.src, str t.dst, a3], u.oneCell' = true) := Lib.hid (fun u hu => turnV_one L.bs t u (by have := congrArg Array.toList Hv.out; simp only at this; rw [this]; exact hu))
  have lpw2 : L.p < w2.heap.size := by omega
  have p6 : L.pv.ownBlock ≠ some w.heap.size := fun e => by have := (H.out.pend.lt _ e).2; omega
  have HO2 := Lib.hid hown2
  have HOn := Lib.hid ho2
  have HBP := Lib.hid BP
  have HBB := Lib.hid BB
  clear hown2 ho2 BP BB c1 c3
  go_wp2_with fail
  go_region_law
    ((refine step_append_lies _ (by rfl) _ _ _ (by rfl) 0 75 i0 _ 4 48 Try.underlying62 hi0 hz0 hz1 hz2 rfl (by omega) L.pv D.pending.length (D.pending.flatMap (turnV L.bs)) (by rfl) ((HP.out.alloc _).drew)
        ⟨w2.heap.size, 0, none⟩ 1 1 [.int .i64 t.kind, str t.src, str t.dst, a3] (by rfl) (by rfl) (World.news_of_block (cs := #[.int .i64 t.kind, str t.src, str t.dst, a3]) (t := 75) (fr := (0, 0)) (heap_alloc_new w2 _)) H1.out
        (by omega) (by unfold maxLen; omega) (by omega) (by simp) (w2.heap.size + 1) (by simp) ?_; intro g cap w3 hown3 hgrow hat hlt; have BP3 := (HBP.out.alloc (.cells #[.int .i64 t.kind, str t.src, str t.dst, a3] 75)).drew.grown hgrow (Ne.symm p3); have BB3 := (HBB.out.alloc (.cells #[.int .i64 t.kind, str t.src, str t.dst, a3] 75)).drew.grown hgrow (Ne.symm p6); have e3 : w3.cell? ⟨L.p, 3, none⟩ = some L.pv := BP3.cell 3; have g3 : w3.frozen? ⟨L.p, 3, none⟩ = false := BP3.free 3; have q0 : w3.cell? ⟨w.heap.size, 0, none⟩ = some (.int .i64 t.kind) := BB3.cell 0; have q1 : w3.cell? ⟨w.heap.size, 1, none⟩ = some (str t.src) := BB3.cell 1; have q2 : w3.cell? ⟨w.heap.size, 2, none⟩ = some (str t.dst) := BB3.cell 2; have q3 : w3.cell? ⟨w.heap.size, 3, none⟩ = some a3 := BB3.cell 3))
  all_goals
    go_wp2
    (try simp only [Act.put]); first | refine bodyPost_ret (results_none rfl _ _ _) rfl ?_ | refine bodyPost_end (results_none rfl _ _ _) rfl ?_
    have hfin := turned_at H.out T.out hp HOn.out HO2.out hgrow (by have := congrArg Array.toList Hv.out; simp only at this; rw [this]; exact hown3) hat
    refine ⟨rfl, .slice (some ⟨g, 0, none⟩) (D.pending.length + 1) cap, hfin.1, hfin.2, ?_⟩
    · rcases hat with h1 | h1
      · exact .inl (by rw [h1]; rfl)
      · exact .inr ⟨g, rfl, by omega⟩
end Go.Proofs.Ytkbmhghellimcaa
