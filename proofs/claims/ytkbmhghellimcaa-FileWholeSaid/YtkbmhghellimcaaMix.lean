/- The walk of digest.mix: one block. -/
import Derived.Test.YtkbmhghellimcaaDig
namespace Go.Proofs.Ytkbmhghellimcaa
open Go.RowKit
attribute [local go_sem] size_str get_str n32_add n32_and n32_or n32_xor n32_not u32_sig n32_shr n32_shl ByteArray.extract_mk

/-- The schedule's memory when the words l are laid. -/
def wrow (l : List B32) : Array Value := (l.map U ++ List.replicate (64 - l.length) (Value.int .u32 0)).toArray
theorem size_wrow (l : List B32) (h : l.length ≤ 64) : (wrow l).size = 64 := by simp [wrow]; omega
theorem wrow_set (l : List B32) (x : B32) (h : l.length < 64) (i : Nat) (hi : i = l.length) : (wrow l).setIfInBounds i (U x) = wrow (l ++ [x]) := by
  subst hi
  unfold wrow
  rw [show 64 - l.length = (63 - l.length) + 1 by omega, List.replicate_succ]
  simp
theorem wrow_get (l : List B32) (i : Nat) (h : i < l.length) : (wrow l)[i]? = some (U (l.getD i 0)) := by
  unfold wrow
  simp [h, List.getElem?_append]
theorem copy_eight {P : Program} (w : World) (dT ty elem : TypeId) (hu : P.underlying dT = some (.slice elem)) (hs : (P.info? elem).map (·.size) = some 1) (g : Nat) (t : TypeId) (a b c d e f x y : B32) (hb : Blk w g t #[U a, U b, U c, U d, U e, U f, U x, U y]) :
    (Builtin.copy_ #[dT, dT] ty #[.slice (some ⟨g, 1, none⟩) 7 7, .slice (some ⟨g, 0, none⟩) 7 8]).run P w = .ok (.int .i64 7) (w.setRow g #[U a, U a, U b, U c, U d, U e, U f, U x]) := by
  have h := run_copy_row (P := P) w dT dT ty elem g 1 7 7 ⟨g, 0, none⟩ 7 8 #[U a, U b, U c, U d, U e, U f, U x, U y] t [U a, U b, U c, U d, U e, U f, U x] hu hs hb rfl
    (fun j v hj => by
      rw [add_off, hb.cell]
      match j, hj with
      | 0, hj | 1, hj | 2, hj | 3, hj | 4, hj | 5, hj | 6, hj => simpa using hj
      | j + 7, hj => simp at hj) (by simp) (by simp [Value.oneCell'])
  exact h
theorem rnds_snoc (l : List (B32 × B32)) : ∀ (v : V8) (k w : B32), rnds v (l ++ [(k, w)]) = rnd (rnds v l) k w := by
  induction l with
  | nil => intro v k w; rfl
  | cons p l ih => intro v k w; exact ih _ k w
def zero8 : Array Value := #[.int .u32 0, .int .u32 0, .int .u32 0, .int .u32 0, .int .u32 0, .int .u32 0, .int .u32 0, .int .u32 0]
/-- The words of a block's begin, k of them raised. -/
def addC (h v : V8) (k : Nat) : Array Value := ((List.range 8).map fun j => if j < k then U (h.list.getD j 0 + v.list.getD j 0) else U (h.list.getD j 0)).toArray
theorem addC_zero (h v : V8) : addC h v 0 = #[U h.a, U h.b, U h.c, U h.d, U h.e, U h.f, U h.g, U h.h] := by simp [addC, List.range, List.range.loop, V8.list]
theorem addC_eight (h v : V8) : addC h v 8 = #[U (h.a + v.a), U (h.b + v.b), U (h.c + v.c), U (h.d + v.d), U (h.e + v.e), U (h.f + v.f), U (h.g + v.g), U (h.h + v.h)] := by simp [addC, List.range, List.range.loop, V8.list]
theorem addC_get (h v : V8) (k : Nat) (hk : k < 8) : (addC h v k)[k]? = some (U (h.list.getD k 0)) := by simp [addC, hk]
theorem addC_set (h v : V8) (k : Nat) (hk : k < 8) : (addC h v k).setIfInBounds k (U (h.list.getD k 0 + v.list.getD k 0)) = addC h v (k + 1) := by
  unfold addC
  rw [List.setIfInBounds_toArray]
  congr 1
  apply List.ext_getElem
  · simp
  · intro i h1 h2
    simp only [List.getElem_set, List.getElem_map, List.getElem_range]
    by_cases e : k = i
    · subst e; simp
    · rw [if_neg e]
      by_cases e2 : i < k
      · rw [if_pos e2, if_pos (by omega)]
      · rw [if_neg e2, if_neg (by omega)]
theorem list_get (v : V8) (k : Nat) (hk : k < 8) : (#[U v.a, U v.b, U v.c, U v.d, U v.e, U v.f, U v.g, U v.h] : Array Value)[k]? = some (U (v.list.getD k 0)) := by
  match k, hk with
  | 0, _ | 1, _ | 2, _ | 3, _ | 4, _ | 5, _ | 6, _ | 7, _ => rfl
theorem n32_word (s : List UInt8) (k : Nat) : ((getL ((s.drop (4 * k)).take 4) : Nat) : Int) % 4294967296 = n32 (wordAt s k) := by
  unfold n32 wordAt
  rw [BitVec.toNat_ofNat]
  simp

set_option maxRecDepth 100000 in
set_option maxHeartbeats 4000000 in
theorem mix_any (h : V8) (kb : Nat) (s : List UInt8) (w : World) (hk : Blk w kb 100 (keysL.map U).toArray) (hs : s.length = 64) :
    Calls Try.prog 66 #[.agg #[U h.a, U h.b, U h.c, U h.d, U h.e, U h.f, U h.g, U h.h], .pointer (some ⟨kb, 0, none⟩), str s] w fun e w' => e = .returned (.agg ((mixV h keysL s).list.map U).toArray) ∧ Below w.heap.size w w' := by
  have Hs := Lib.hid hs
  have Hk := Lib.hid hk
  clear hs hk
  go_enter Try.func66, Try.ntmps66
  go_wp2
  go_loopw [17] (fun i wr => ∃ k : Nat, k ≤ 16 ∧ i = .int .i64 k ∧ Blk wr (w.heap.size + 1 + 1) 100 (wrow ((List.range k).map (wordAt s))) ∧ Blk wr w.heap.size 98 (h.list.map U).toArray ∧ Blk wr (w.heap.size + 1) 98 zero8 ∧ Below w.heap.size w wr) (fun i _ => (16 - intOf i).toNat)
  case atStart =>
    refine ⟨0, by omega, rfl, Blk.new' (by simp) _ _, ((Blk.new _ _ _).alloc _).alloc _, (Blk.new' (by simp) _ _).alloc _, (((Below.refl _ _).alloc (Nat.le_refl _) _).alloc (by simp) _).alloc (by simp; omega) _⟩
  case round =>
    obtain ⟨k, hk16, rfl, hb2, hb0, hb1, hbl⟩ := hrel
    by_cases hlt : k < 16
    · obtain ⟨u, hc⟩ := hb2.at k (by rw [size_wrow _ (by simp; omega)]; omega)
      have hf := hb2.free k
      have hsl : s.length = 64 := Hs.out
      have Hw := Lib.hid (n32_word s k)
      go_wp2_with fail
      refine (get_any _ _ (by simp; omega) (by simp; omega)).mono ?_
      rintro e w1 ⟨rfl, rfl⟩
      have hw := Hw.out
      clear Hw
      go_wp2_with fail
      go_roundw
      case rel =>
        refine ⟨k + 1, by omega, by go_num, ?_, hb0.far (by simp; omega) _, hb1.far (by simp) _, hbl.setCell (by simp; omega) _⟩
        have := hb2.set k (U (wordAt s k))
        rw [wrow_set _ _ (by simp; omega) _ (by simp)] at this
        rw [List.range_succ, List.map_append]
        exact this
      case measure => simp [intOf]; omega
    · obtain rfl : k = 16 := by omega
      go_wp2
      rw [show ((16 : Nat) : Int) = (16 : Int) from rfl]
      obtain ⟨w2, rfl⟩ : ∃ x, x = wr := ⟨_, rfl⟩
      go_loopw [11] (fun i wr => ∃ k : Nat, k ≤ 48 ∧ i = .int .i64 ((k : Int) + 16) ∧ Blk wr (w.heap.size + 1 + 1) 100 (wrow (moreW k (firstW s))) ∧ Blk wr w.heap.size 98 (h.list.map U).toArray ∧ Blk wr (w.heap.size + 1) 98 zero8 ∧ Below w.heap.size w wr) (fun i _ => (64 - intOf i).toNat)
      case atStart => exact ⟨0, by omega, rfl, hb2, hb0, hb1, hbl⟩
      case round =>
        clear hb2 hb0 hb1 hbl hlt hk16
        obtain ⟨k, hk48, rfl, hb2, hb0, hb1, hbl⟩ := hrel
        have hln : (moreW k (firstW s)).length = k + 16 := by rw [length_moreW]; simp [firstW]; omega
        by_cases hlt : k < 48
        · have Hln := Lib.hid hln
          obtain ⟨u, hc⟩ := hb2.at (k + 16) (by rw [size_wrow _ (by omega)]; omega)
          have hf := hb2.free (k + 16)
          have c0 := (hb2.cell k).trans (wrow_get _ _ (by omega))
          have c1 := (hb2.cell (k + 1)).trans (wrow_get _ _ (by omega))
          have c9 := (hb2.cell (k + 9)).trans (wrow_get _ _ (by omega))
          have c14 := (hb2.cell (k + 14)).trans (wrow_get _ _ (by omega))
          have hx : nextW (moreW k (firstW s)) = (moreW k (firstW s)).getD k 0 + rot3 ((moreW k (firstW s)).getD (k + 1) 0) 7 18 3 true + (moreW k (firstW s)).getD (k + 9) 0 + rot3 ((moreW k (firstW s)).getD (k + 14) 0) 17 19 10 true := by
            unfold nextW
            rw [hln, show k + 16 - 16 = k by omega, show k + 16 - 15 = k + 1 by omega, show k + 16 - 7 = k + 9 by omega, show k + 16 - 2 = k + 14 by omega]
          have Hx := Lib.hid hx
          clear hx hln
          generalize (moreW k (firstW s)).getD k 0 = x0 at *
          generalize (moreW k (firstW s)).getD (k + 1) 0 = x1 at *
          generalize (moreW k (firstW s)).getD (k + 9) 0 = x9 at *
          generalize (moreW k (firstW s)).getD (k + 14) 0 = x14 at *
          go_wp2
          have wf0 : IntKind.i64.wrap ((k : Int)) = (k : Int) := IntWalk.i64_in _ (by omega)
          have gf0 : (0 : Int) ≤ (k : Int) := by omega
          have lf0 : (k : Int) < 64 := by omega
          have tf0 : ((k : Int)).toNat = k := by omega
          have wf1 : IntKind.i64.wrap ((k : Int) + 16 - 15) = (k : Int) + 1 := by rw [IntWalk.i64_in _ (by omega)]; omega
          have gf1 : (0 : Int) ≤ (k : Int) + 1 := by omega
          have lf1 : (k : Int) + 1 < 64 := by omega
          have tf1 : ((k : Int) + 1).toNat = k + 1 := by omega
          have wf9 : IntKind.i64.wrap ((k : Int) + 16 - 7) = (k : Int) + 9 := by rw [IntWalk.i64_in _ (by omega)]; omega
          have gf9 : (0 : Int) ≤ (k : Int) + 9 := by omega
          have lf9 : (k : Int) + 9 < 64 := by omega
          have tf9 : ((k : Int) + 9).toNat = k + 9 := by omega
          have wf14 : IntKind.i64.wrap ((k : Int) + 16 - 2) = (k : Int) + 14 := by rw [IntWalk.i64_in _ (by omega)]; omega
          have gf14 : (0 : Int) ≤ (k : Int) + 14 := by omega
          have lf14 : (k : Int) + 14 < 64 := by omega
          have tf14 : ((k : Int) + 14).toNat = k + 14 := by omega
          have wf16 : IntKind.i64.wrap ((k : Int) + 16) = (k : Int) + 16 := IntWalk.i64_in _ (by omega)
          have gf16 : (0 : Int) ≤ (k : Int) + 16 := by omega
          have lf16 : (k : Int) + 16 < 64 := by omega
          have tf16 : ((k : Int) + 16).toNat = k + 16 := by omega
          refine still_region 23 (by kernel_rfl) (by kernel_rfl) ?_
          simp only [List.take_succ_cons, List.take_zero, List.drop_succ_cons, List.drop_zero]
          repeat still_step
          still_call (still_same (rot_any _ 7 18 3 true (by decide) (by decide) (by decide) _))
          repeat still_step
          still_call (still_same (rot_any _ 17 19 10 true (by decide) (by decide) (by decide) _))
          repeat still_step
          refine wpStill_nil ?_
          go_wp2
          go_roundw
          case rel =>
            refine ⟨k + 1, by omega, by go_num, ?_, (hb0.drew).far (by simp; omega) _, hb1.drew.far (by simp) _, hbl.drew.setCell (by simp; omega) _⟩
            have := hb2.drew.set (k + 16) (U (nextW (moreW k (firstW s))))
            rw [wrow_set _ _ (by rw [Hln.out]; omega) _ Hln.out.symm, ← moreW_snoc, Hx.out] at this
            exact this
          case measure => simp [intOf]; omega
        · obtain rfl : k = 48 := by omega
          have z0 : wr.cell? ⟨w.heap.size, 0, none⟩ = some (U h.a) := hb0.cell 0
          have z1 : wr.cell? ⟨w.heap.size, 1, none⟩ = some (U h.b) := hb0.cell 1
          have z2 : wr.cell? ⟨w.heap.size, 2, none⟩ = some (U h.c) := hb0.cell 2
          have z3 : wr.cell? ⟨w.heap.size, 3, none⟩ = some (U h.d) := hb0.cell 3
          have z4 : wr.cell? ⟨w.heap.size, 4, none⟩ = some (U h.e) := hb0.cell 4
          have z5 : wr.cell? ⟨w.heap.size, 5, none⟩ = some (U h.f) := hb0.cell 5
          have z6 : wr.cell? ⟨w.heap.size, 6, none⟩ = some (U h.g) := hb0.cell 6
          have z7 : wr.cell? ⟨w.heap.size, 7, none⟩ = some (U h.h) := hb0.cell 7
          go_wp2
          rw [show (((48 : Nat) : Int) + 16) = (64 : Int) from rfl]
          have hg : w.heap.size + 1 + 1 < wr.heap.size := hb2.lt
          have hn0 := hb0.alloc (.cells #[U h.a, U h.b, U h.c, U h.d, U h.e, U h.f, U h.g, U h.h] 98)
          have hn1 := hb1.alloc (.cells #[U h.a, U h.b, U h.c, U h.d, U h.e, U h.f, U h.g, U h.h] 98)
          have hn2 := hb2.alloc (.cells #[U h.a, U h.b, U h.c, U h.d, U h.e, U h.f, U h.g, U h.h] 98)
          have hng := Blk.new wr 98 #[U h.a, U h.b, U h.c, U h.d, U h.e, U h.f, U h.g, U h.h]
          have hnb := hbl.alloc hbl.size (.cells #[U h.a, U h.b, U h.c, U h.d, U h.e, U h.f, U h.g, U h.h] 98)
          change Code.wp _ _ _ _ (wr.alloc (.cells #[U h.a, U h.b, U h.c, U h.d, U h.e, U h.f, U h.g, U h.h] 98))
          generalize wr.alloc (.cells #[U h.a, U h.b, U h.c, U h.d, U h.e, U h.f, U h.g, U h.h] 98) = w3 at hn0 hn1 hn2 hng hnb ⊢
          generalize wr.heap.size = g at hg hng ⊢
          clear z0 z1 z2 z3 z4 z5 z6 z7 hb0 hb1 hb2 hbl
          have hlw : (moreW 48 (firstW s)).length = 64 := by rw [length_moreW]; simp [firstW]
          have Hm := Lib.hid (show mixV h keysL s = h.add (rnds h (keysL.zip (moreW 48 (firstW s)))) from rfl)
          generalize moreW 48 (firstW s) = W at hlw Hm hn2
          have Hlw := Lib.hid hlw
          clear hlw hln hk48 hlt
          go_loopw [64] (fun i wr => ∃ (k : Nat) (v : V8), k ≤ 64 ∧ i = .int .i64 k ∧ Hid (v = rnds h ((keysL.zip W).take k)) ∧ Blk wr g 98 #[U v.a, U v.b, U v.c, U v.d, U v.e, U v.f, U v.g, U v.h] ∧ Blk wr (w.heap.size + 1 + 1) 100 (wrow W) ∧ Blk wr w.heap.size 98 (h.list.map U).toArray ∧ Blk wr (w.heap.size + 1) 98 zero8 ∧ Below w.heap.size w wr) (fun i _ => (64 - intOf i).toNat)
          case atStart => exact ⟨0, h, by omega, rfl, Lib.hid rfl, hng, hn2, hn0, hn1, hnb⟩
          case round =>
            clear hng hn0 hn1 hn2 hnb
            obtain ⟨k, v, hk64, rfl, Hv, hbg, hb2, hb0, hb1, hbl⟩ := hrel
            by_cases hlt : k < 64
            · have hbk := Hk.out.below hbl Hk.out.lt
              have ck : wr.cell? ⟨kb, k, none⟩ = some (U (keysL.getD k 0)) := by
                have hl : k < keysL.length := by simpa [keysL] using hlt
                rw [hbk.cell]; simp [hl]
              have cw : wr.cell? ⟨w.heap.size + 1 + 1, k, none⟩ = some (U (W.getD k 0)) := (hb2.cell k).trans (wrow_get _ _ (by rw [Hlw.out]; exact hlt))
              have v0 : wr.cell? ⟨g, 0, none⟩ = some (U v.a) := hbg.cell 0
              have v1 : wr.cell? ⟨g, 1, none⟩ = some (U v.b) := hbg.cell 1
              have v2 : wr.cell? ⟨g, 2, none⟩ = some (U v.c) := hbg.cell 2
              have v3 : wr.cell? ⟨g, 3, none⟩ = some (U v.d) := hbg.cell 3
              have v4 : wr.cell? ⟨g, 4, none⟩ = some (U v.e) := hbg.cell 4
              have v5 : wr.cell? ⟨g, 5, none⟩ = some (U v.f) := hbg.cell 5
              have v6 : wr.cell? ⟨g, 6, none⟩ = some (U v.g) := hbg.cell 6
              have v7 : wr.cell? ⟨g, 7, none⟩ = some (U v.h) := hbg.cell 7
              have hsn : rnds h ((keysL.zip W).take (k + 1)) = rnd v (keysL.getD k 0) (W.getD k 0) := by
                have hl : k < (keysL.zip W).length := by rw [List.length_zip, Hlw.out]; simpa [keysL] using hlt
                have hl1 : k < keysL.length := by simpa [keysL] using hlt
                have hl2 : k < W.length := by rw [Hlw.out]; exact hlt
                rw [List.take_succ_eq_append_getElem hl, List.getElem_zip, rnds_snoc, ← Hv.out]
                simp [hl1, hl2]
              have Hsn := Lib.hid hsn
              clear hsn
              generalize keysL.getD k 0 = kk at ck Hsn
              generalize W.getD k 0 = ww at cw Hsn
              go_wp2
              go_quiet ((go_at_call 79; exact Calls.quiet_of_same (still_same (rot_any _ 6 11 25 false (by decide) (by decide) (by decide) _))))
              go_wp2
              go_quiet ((go_at_call 79; exact quiet_more ((rot_any _ 2 13 22 false (by decide) (by decide) (by decide) _))))
              go_wp2
              simp only [n32_add]
              refine wp_forget_draws _ ?_
              intro wq m hq
              have hbg' : Blk wq.drew g 98 #[U v.a, U v.b, U v.c, U v.d, U v.e, U v.f, U v.g, U v.h] := by rw [hq]; exact hbg
              have hb2' : Blk wq.drew (w.heap.size + 1 + 1) 100 (wrow W) := by rw [hq]; exact hb2
              have hb0' : Blk wq.drew w.heap.size 98 (h.list.map U).toArray := by rw [hq]; exact hb0
              have hb1' : Blk wq.drew (w.heap.size + 1) 98 zero8 := by rw [hq]; exact hb1
              have hbl' : Below w.heap.size w wq.drew := by rw [hq]; exact ⟨hbl.os, hbl.tape, hbl.output, hbl.size, hbl.block⟩
              clear v0 v1 v2 v3 v4 v5 v6 v7 cw ck hbk hbg hb2 hb0 hb1 hbl hq
              have hcp := copy_eight (P := Try.prog) wq.drew 85 3 87 Try.underlying85 (by kernel_rfl) g 98 v.a v.b v.c v.d v.e v.f v.g v.h hbg'
              have hbr := hbg'.setRow #[U v.a, U v.a, U v.b, U v.c, U v.d, U v.e, U v.f, U v.g]
              have r4 : (wq.drew.setRow g #[U v.a, U v.a, U v.b, U v.c, U v.d, U v.e, U v.f, U v.g]).cell? ⟨g, 4, none⟩ = some (U v.d) := hbr.cell 4
              have r0 : (wq.drew.setRow g #[U v.a, U v.a, U v.b, U v.c, U v.d, U v.e, U v.f, U v.g]).cell? ⟨g, 0, none⟩ = some (U v.a) := hbr.cell 0
              have f4 := hbr.free 4
              have f0 := hbr.free 0
              refine still_region 2 (by kernel_rfl) (by kernel_rfl) ?_
              simp only [List.take_succ_cons, List.take_zero, List.drop_succ_cons, List.drop_zero]
              repeat still_step
              refine wpStill_nil ?_
              go_wp2
              go_roundw
              case rel =>
                refine ⟨k + 1, rnd v kk ww, by omega, by go_num, Lib.hid Hsn.out.symm, ?_, ((hb2'.farRow (by omega) _).far (by simp; omega) _).far (by simp; omega) _, ((hb0'.farRow (by omega) _).far (by simp; omega) _).far (by simp; omega) _, ((hb1'.farRow (by omega) _).far (by simp; omega) _).far (by simp; omega) _, ((below_setRow' hbl' (by omega) _).setCell (by simp; omega) _).setCell (by simp; omega) _⟩
                exact (hbr.set 4 _).set 0 _
              case measure => simp [intOf]; omega
            · obtain rfl : k = 64 := by omega
              have hv : v = rnds h (keysL.zip W) := by
                rw [Hv.out, List.take_of_length_le]
                rw [List.length_zip, Hlw.out]
                exact Nat.min_le_right _ _
              have Hr := Lib.hid (show mixV h keysL s = h.add v by rw [Hm.out, hv])
              clear hv Hv
              go_wp2
              rw [show ((64 : Nat) : Int) = (64 : Int) from rfl]
              go_loopw [127] (fun i wr => ∃ k : Nat, k ≤ 8 ∧ i = .int .i64 k ∧ Blk wr w.heap.size 98 (addC h v k) ∧ Blk wr (w.heap.size + 1) 98 zero8 ∧ Blk wr g 98 #[U v.a, U v.b, U v.c, U v.d, U v.e, U v.f, U v.g, U v.h] ∧ Below w.heap.size w wr) (fun i _ => (8 - intOf i).toNat)
              case atStart => exact ⟨0, by omega, rfl, by rw [addC_zero]; exact hb0, hb1, hbg, hbl⟩
              case round =>
                clear hb2 hb0 hb1 hbl hbg hlt hk64
                obtain ⟨k, hk8, rfl, hb0, hb1, hbg, hbl⟩ := hrel
                by_cases hlt : k < 8
                · have c0 := (hb0.cell k).trans (addC_get h v k hlt)
                  have f0 := hb0.free k
                  have c1 := (hbg.cell k).trans (list_get v k hlt)
                  have hst := addC_set h v k hlt
                  have Hst := Lib.hid hst
                  clear hst
                  generalize h.list.getD k 0 = x at c0 Hst
                  generalize v.list.getD k 0 = y at c1 Hst
                  have l0 : (0 : Int) ≤ (k : Int) := by omega
                  have l8 : (k : Int) < 8 := by omega
                  go_wp2
                  refine still_region 8 (by kernel_rfl) (by kernel_rfl) ?_
                  simp only [List.take_succ_cons, List.take_zero, List.drop_succ_cons, List.drop_zero]
                  repeat still_step
                  refine wpStill_nil ?_
                  go_wp2
                  go_roundw
                  case rel => exact ⟨k + 1, by omega, by go_num, by rw [← Hst.out]; exact hb0.drew.set k _, hb1.drew.far (by simp) _, hbg.drew.far (by simp; omega) _, hbl.drew.setCell (by simp) _⟩
                  case measure => simp [intOf]; omega
                · obtain rfl : k = 8 := by omega
                  rw [addC_eight] at hb0
                  have z0 : wr.cell? ⟨w.heap.size, 0, none⟩ = some (U (h.a + v.a)) := hb0.cell 0
                  have z1 : wr.cell? ⟨w.heap.size, 1, none⟩ = some (U (h.b + v.b)) := hb0.cell 1
                  have z2 : wr.cell? ⟨w.heap.size, 2, none⟩ = some (U (h.c + v.c)) := hb0.cell 2
                  have z3 : wr.cell? ⟨w.heap.size, 3, none⟩ = some (U (h.d + v.d)) := hb0.cell 3
                  have z4 : wr.cell? ⟨w.heap.size, 4, none⟩ = some (U (h.e + v.e)) := hb0.cell 4
                  have z5 : wr.cell? ⟨w.heap.size, 5, none⟩ = some (U (h.f + v.f)) := hb0.cell 5
                  have z6 : wr.cell? ⟨w.heap.size, 6, none⟩ = some (U (h.g + v.g)) := hb0.cell 6
                  have z7 : wr.cell? ⟨w.heap.size, 7, none⟩ = some (U (h.h + v.h)) := hb0.cell 7
                  have y0 : wr.cell? ⟨w.heap.size + 1, 0, none⟩ = some (.int .u32 0) := hb1.cell 0
                  have y1 : wr.cell? ⟨w.heap.size + 1, 1, none⟩ = some (.int .u32 0) := hb1.cell 1
                  have y2 : wr.cell? ⟨w.heap.size + 1, 2, none⟩ = some (.int .u32 0) := hb1.cell 2
                  have y3 : wr.cell? ⟨w.heap.size + 1, 3, none⟩ = some (.int .u32 0) := hb1.cell 3
                  have y4 : wr.cell? ⟨w.heap.size + 1, 4, none⟩ = some (.int .u32 0) := hb1.cell 4
                  have y5 : wr.cell? ⟨w.heap.size + 1, 5, none⟩ = some (.int .u32 0) := hb1.cell 5
                  have y6 : wr.cell? ⟨w.heap.size + 1, 6, none⟩ = some (.int .u32 0) := hb1.cell 6
                  have y7 : wr.cell? ⟨w.heap.size + 1, 7, none⟩ = some (.int .u32 0) := hb1.cell 7
                  have x0 := hb1.free 0
                  have x1 := hb1.free 1
                  have x2 := hb1.free 2
                  have x3 := hb1.free 3
                  have x4 := hb1.free 4
                  have x5 := hb1.free 5
                  have x6 := hb1.free 6
                  have x7 := hb1.free 7
                  go_wp2
                  have hB := ((((((((hb1.set 0 (U (h.a + v.a))).set 1 (U (h.b + v.b))).set 2 (U (h.c + v.c))).set 3 (U (h.d + v.d))).set 4 (U (h.e + v.e))).set 5 (U (h.f + v.f))).set 6 (U (h.g + v.g))).set 7 (U (h.h + v.h)))
                  refine bodyPost_ret (results_cell_row rfl _ _ (w.heap.size + 1) 98 #[U (h.a + v.a), U (h.b + v.b), U (h.c + v.c), U (h.d + v.d), U (h.e + v.e), U (h.f + v.f), U (h.g + v.g), U (h.h + v.h)] (0, 0) _ rfl hB Try.underlying98 rfl (by kernel_rfl)) rfl ⟨?_, ?_⟩
                  · rw [Hr.out]; rfl
                  · exact (((((((hbl.setCell (by simp) _).setCell (by simp) _).setCell (by simp) _).setCell (by simp) _).setCell (by simp) _).setCell (by simp) _).setCell (by simp) _).setCell (by simp) _
end Go.Proofs.Ytkbmhghellimcaa
