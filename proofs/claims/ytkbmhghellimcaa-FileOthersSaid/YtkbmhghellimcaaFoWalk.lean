/- The walk of FileOthers. -/
import Derived.Test.YtkbmhghellimcaaFoLaw
import Derived.Test.YtkbmhghellimcaaArgs14
import Derived.Deep.RegionHeld3
namespace Go.Proofs.Ytkbmhghellimcaa
open Go.RowKit
attribute [local go_sem] size_str get_str

theorem key3_len (i : Nat) : (key3 i).length ≤ maxLen := by
  match i with
  | 0 | 1 | 2 => decide
  | i + 3 => exact Nat.zero_le _
theorem loadR_form (D : DiskS) (s : Str) : ∃ t e, loadR D s = .tuple #[str t, .int .i64 e] := by
  unfold loadR
  split
  · exact openR_form _
  · exact ⟨[], _, rfl⟩
def thC (th : List Bool) : Array Value := (th.map Value.bool).toArray
def txC (tx : List Str) : Array Value := (tx.map str).toArray

theorem List.set_eq_self_iff_of_getD : ∀ {l : List Bool} {k : Nat}, k < l.length → l.getD k false = true → l = l.set k true
  | [], k, h, _ => by simp at h
  | b :: l, 0, _, h => by simp at h; simp [h]
  | b :: l, k + 1, h, h2 => by
    rw [List.set_cons_succ, ← List.set_eq_self_iff_of_getD (l := l) (by simpa using h) (by simpa using h2)]
set_option maxRecDepth 100000 in
set_option maxHeartbeats 3200000 in
theorem others_walk (w : World) (v : Value) (xs : List ActS) (hx : Acts w v xs) (hok : ∀ y ∈ xs, ActOk y) (hxl : xs.length ≤ maxLen) :
    Calls Try.prog 4 #[v] w fun e w' => e = .returned (.bool true) ∧ Below w.heap.size w w' := by
  obtain ⟨A, c, hv, hc, hA⟩ := id hx
  have HX := Lib.hid hx
  have HOK := Lib.hid hok
  have Hv := Lib.hid hv
  have hlen : xs.length ≤ 9223372036854775807 := by unfold maxLen at hxl; exact hxl
  rw [hv]
  clear hx hok hv hA hxl
  go_enter Try.func4, Try.ntmps4
  go_wp2_with (go_at_call 6; refine (awake14 _).mono ?_; rintro e w1 ⟨rfl, hb1⟩)
  · go_ret
    exact ⟨rfl, hb1⟩
  · refine (new_from w1 w1 (· < w.heap.size) 65536 (by decide) (Only.refl _ _) (fun b h => by have := hb1.size; omega)).mono ?_
    rintro e w2 ⟨p, rfl, h2⟩
    go_wp2
    have h5 := ((h2.guard (.cells #[.string { data := #[] }, .string { data := #[] }, .string { data := #[] }] 34)).guard (.cells #[.bool false, .bool false, .bool false] 35)).guard (.cells #[.string { data := #[97] }, .string { data := #[98] }, .string { data := #[99] }] 9)
    have hb2 : Below w.heap.size w1 w2 := h2.toBelow hb1.size
    have hb5 : Below w.heap.size w (((w2.alloc (.cells #[.string { data := #[] }, .string { data := #[] }, .string { data := #[] }] 34)).alloc (.cells #[.bool false, .bool false, .bool false] 35)).alloc (.cells #[.string { data := #[97] }, .string { data := #[98] }, .string { data := #[99] }] 9)) := by
      have l1 := hb1.size
      have l2 := hb2.size
      exact (((hb1.trans hb2).alloc (by omega) _).alloc (by rw [size_alloc']; omega) _).alloc (by rw [size_alloc', size_alloc']; omega) _
    have hT := ((Blk.new' (w := w2) rfl 34 #[.string { data := #[] }, .string { data := #[] }, .string { data := #[] }]).alloc (.cells #[.bool false, .bool false, .bool false] 35)).alloc (.cells #[.string { data := #[97] }, .string { data := #[98] }, .string { data := #[99] }] 9)
    have hH := (Blk.new' (w := w2.alloc (.cells #[.string { data := #[] }, .string { data := #[] }, .string { data := #[] }] 34)) (g := w2.heap.size + 1) (by rw [size_alloc']) 35 #[.bool false, .bool false, .bool false]).alloc (.cells #[.string { data := #[97] }, .string { data := #[98] }, .string { data := #[99] }] 9)
    have hS := Blk.new' (w := (w2.alloc (.cells #[.string { data := #[] }, .string { data := #[] }, .string { data := #[] }] 34)).alloc (.cells #[.bool false, .bool false, .bool false] 35)) (g := w2.heap.size + 1 + 1) (by rw [size_alloc', size_alloc']) 9 #[.string { data := #[97] }, .string { data := #[98] }, .string { data := #[99] }]
    have l2 : w.heap.size ≤ w2.heap.size := by have := hb1.size; have := hb2.size; omega
    obtain ⟨tb, htb⟩ : ∃ tb, w2.heap.size = tb := ⟨_, rfl⟩
    simp only [size_alloc', htb] at h5
    rw [htb] at hT hH hS l2 ⊢
    have h6 := h5.weaken (K' := fun b => b < w.heap.size ∨ b = tb ∨ b = tb + 1 ∨ b = tb + 1 + 1) (fun b e => by rcases e with e | e | e | e; exact .inl (.inl (.inl e)); exact .inl (.inl (.inr e)); exact .inl (.inr e); exact .inr e)
    generalize (((w2.alloc (.cells #[.string { data := #[] }, .string { data := #[] }, .string { data := #[] }] 34)).alloc (.cells #[.bool false, .bool false, .bool false] 35)).alloc (.cells #[.string { data := #[97] }, .string { data := #[98] }, .string { data := #[99] }] 9)) = w5 at h6 hb5 hT hH hS ⊢
    have hx8 : xs.length ≤ 8 := (by have h8 : (xs.length : Int) ≤ 8 := (by assumption); omega)
    clear h5 h2 hb2 hb1 hlen htb
    go_loopw [30, 8] (fun ix n wr => ∃ (j : Nat) (D : DiskS) (th : List Bool) (tx : List Str), j ≤ xs.length ∧ ix = .int .i64 j ∧ n = .int .i64 ((th.filter id).length : Nat) ∧ FO j D th tx ∧ DFrom (fun b => b < w.heap.size ∨ b = tb ∨ b = tb + 1 ∨ b = tb + 1 + 1) wr wr p D ∧ Blk wr tb 34 (txC tx) ∧ Blk wr (tb + 1) 35 (thC th) ∧ Blk wr (tb + 1 + 1) 9 #[.string { data := #[97] }, .string { data := #[98] }, .string { data := #[99] }] ∧ Below w.heap.size w wr) (fun ix _ _ => xs.length - (intOf ix).toNat)
    case atStart => exact ⟨0, _, _, _, Nat.zero_le _, rfl, rfl, fo_start, h6, hT, hH, hS, hb5⟩
    case round =>
      clear h6 hT hH hS hb5
      obtain ⟨j, D, th, tx, hj, rfl, rfl, hFO, hD, hT, hH, hS, hbl⟩ := hrel
      by_cases hjl : j < xs.length
      · obtain ⟨a, c', hva, _, hca⟩ := HX.out.at_ hbl hjl
        rw [Hv.out] at hva
        obtain ⟨rfl, rfl⟩ : A = some a ∧ c = c' := by simpa using hva
        have hxo := HOK.out xs[j] (List.getElem_mem _)
        obtain ⟨x, hxe⟩ : ∃ x, xs[j] = x := ⟨_, rfl⟩
        rw [hxe] at hca hxo
        have p0 : wr.cell? (a.add (j * 6)) = some (str x.a) := hca 0 _ rfl
        have p1 : wr.cell? ⟨(a.add (j * 6)).block, (a.add (j * 6)).off + 1, none⟩ = some (str x.by_) := (addr_next _ _ 1 (by decide)) ▸ hca 1 _ rfl
        have p2 : wr.cell? ⟨(a.add (j * 6)).block, (a.add (j * 6)).off + 2, none⟩ = some (.int .u16 x.n) := (addr_next _ _ 2 (by decide)) ▸ hca 2 _ rfl
        have p3 : wr.cell? ⟨(a.add (j * 6)).block, (a.add (j * 6)).off + 3, none⟩ = some (.int .u8 x.b.toNat) := (addr_next _ _ 3 (by decide)) ▸ hca 3 _ rfl
        have p4 : wr.cell? ⟨(a.add (j * 6)).block, (a.add (j * 6)).off + 4, none⟩ = some (.bool x.clean) := (addr_next _ _ 4 (by decide)) ▸ hca 4 _ rfl
        have p5 : wr.cell? ⟨(a.add (j * 6)).block, (a.add (j * 6)).off + 5, none⟩ = some (.int .i8 x.fuse) := (addr_next _ _ 5 (by decide)) ▸ hca 5 _ rfl
        clear hva hca hxe
        have HFO := Lib.hid hFO
        have HD := Lib.hid hD
        have HXO := Lib.hid hxo
        clear hFO hD hxo
        obtain ⟨k, hk⟩ : ∃ k, x.b.toNat % 3 = k := ⟨_, rfl⟩
        have hk3 : k < 3 := by omega
        have hki : ((x.b.toNat : Nat) : Int) % 3 = (k : Int) := by omega
        have Hki := Lib.hid hki
        have hkl : (k : Int) < 3 := by omega
        have hk0 : (0 : Int) ≤ (k : Int) := by omega
        have htl : (actT x).length < 3000 := by
          simp only [actT, List.length_replicate]
          omega
        have HSt := Lib.hid (HFO.out.step k hk3 (actT x) htl)
        have HSF := Lib.hid (HFO.out.bd.saveFine (key3 k) spareS (actT x) (by omega) (by omega) (by omega) (by omega))
        have HA := Lib.hid (show #[str x.a, str x.by_, .int .u16 x.n, .int .u8 x.b.toNat, .bool x.clean, .int .i8 x.fuse] = actC x from rfl)
        have HD6 := Lib.hid (HD.out.guard (.cells #[str x.a, str x.by_, .int .u16 x.n, .int .u8 x.b.toNat, .bool x.clean, .int .i8 x.fuse] 40))
        have B6 := Blk.new wr 40 #[str x.a, str x.by_, .int .u16 x.n, .int .u8 x.b.toNat, .bool x.clean, .int .i8 x.fuse]
        have T6 := hT.alloc (.cells #[str x.a, str x.by_, .int .u16 x.n, .int .u8 x.b.toNat, .bool x.clean, .int .i8 x.fuse] 40)
        have H6 := hH.alloc (.cells #[str x.a, str x.by_, .int .u16 x.n, .int .u8 x.b.toNat, .bool x.clean, .int .i8 x.fuse] 40)
        have S6 := hS.alloc (.cells #[str x.a, str x.by_, .int .u16 x.n, .int .u8 x.b.toNat, .bool x.clean, .int .i8 x.fuse] 40)
        have b6 := hbl.alloc hbl.size (.cells #[str x.a, str x.by_, .int .u16 x.n, .int .u8 x.b.toNat, .bool x.clean, .int .i8 x.fuse] 40)
        have lab := hS.lt
        clear hk hki hT hH hS hbl HD
        go_wp2
        rw [Hki.out]
        have HVB := Lib.hid (show tb + 1 + 1 < wr.heap.size from lab)
        generalize wr.heap.size = vb at *
        generalize wr.alloc (.cells #[str x.a, str x.by_, .int .u16 x.n, .int .u8 x.b.toNat, .bool x.clean, .int .i8 x.fuse] 40) = w6 at HD6 B6 T6 H6 S6 b6 ⊢
        clear p0 p1 p2 p3 p4 p5
        have s0 : w6.cell? ⟨tb + 1 + 1, k, none⟩ = some (str (key3 k)) := by
          rw [S6.cell]
          match k, hk3 with
          | 0, _ | 1, _ | 2, _ => rfl
        have q0 : w6.cell? ⟨vb, 0, none⟩ = some (str x.a) := B6.cell 0
        have q1 : w6.cell? ⟨vb, 1, none⟩ = some (str x.by_) := B6.cell 1
        have q2 : w6.cell? ⟨vb, 2, none⟩ = some (.int .u16 x.n) := B6.cell 2
        have q3 : w6.cell? ⟨vb, 3, none⟩ = some (.int .u8 x.b.toNat) := B6.cell 3
        have q4 : w6.cell? ⟨vb, 4, none⟩ = some (.bool x.clean) := B6.cell 4
        have q5 : w6.cell? ⟨vb, 5, none⟩ = some (.int .i8 x.fuse) := B6.cell 5
        have l1 := S6.lt
        have HLW := Lib.hid (b6.size)
        have l2' := B6.lt
        go_region_held3 (fun w' => w'.cell? ⟨tb + 1 + 1, k, none⟩ = some (str (key3 k)) ∧ w'.cell? ⟨vb, 0, none⟩ = some (str x.a) ∧ w'.cell? ⟨vb, 1, none⟩ = some (str x.by_) ∧ w'.cell? ⟨vb, 2, none⟩ = some (.int .u16 x.n) ∧ w'.cell? ⟨vb, 3, none⟩ = some (.int .u8 x.b.toNat) ∧ w'.cell? ⟨vb, 4, none⟩ = some (.bool x.clean) ∧ w'.cell? ⟨vb, 5, none⟩ = some (.int .i8 x.fuse))
          (go_keep)
          (first
            | (go_at_call 13; rw [HA.out]; refine (acttext_any _ x HXO.out.n).mono ?_; rintro e w7 ⟨rfl, hb7⟩; have S7 := S6.drew.below hb7 l1; have B7 := B6.drew.below hb7 l2'; have T7 := T6.drew.below hb7 T6.lt; have H7 := H6.drew.below hb7 H6.lt; have b7 := b6.drew.trans (hb7.mono HLW.out); have HD7 := Lib.hid (HD6.out.drew.below hb7).now; have a0 : w7.cell? ⟨tb + 1 + 1, k, none⟩ = some (str (key3 k)) := (hb7.cell (p := ⟨tb + 1 + 1, k, none⟩) l1).trans s0; have q0' : w7.cell? ⟨vb, 0, none⟩ = some (str x.a) := B7.cell 0; have q1' : w7.cell? ⟨vb, 1, none⟩ = some (str x.by_) := B7.cell 1; have q2' : w7.cell? ⟨vb, 2, none⟩ = some (.int .u16 x.n) := B7.cell 2; have q3' : w7.cell? ⟨vb, 3, none⟩ = some (.int .u8 x.b.toNat) := B7.cell 3; have q4' : w7.cell? ⟨vb, 4, none⟩ = some (.bool x.clean) := B7.cell 4; have q5' : w7.cell? ⟨vb, 5, none⟩ = some (.int .i8 x.fuse) := B7.cell 5; clear hb7)
            | (go_at_call 12; refine (save_from HD7.out (key3 k) spareS (actT x) (key3_len k) (by decide) (by omega) HSF.out).mono ?_; rintro e w8 ⟨rfl, hd8⟩; rw [HSt.out.1]; have ho8 := hd8.only; have S8 := S7.only ho8 (fun e => e (.inl (.inr (.inr (.inr rfl))))); have B8 := B7.only ho8 (fun e => e (.inr rfl)); have T8 := T7.only ho8 (fun e => e (.inl (.inr (.inl rfl)))); have H8 := H7.only ho8 (fun e => e (.inl (.inr (.inr (.inl rfl))))); have c0 : w8.cell? ⟨tb + 1 + 1, k, none⟩ = some (str (key3 k)) := (World.cell?_of_block (w := w7) (ho8.block _ S7.lt (fun e => e (.inl (.inr (.inr (.inr rfl))))))).trans a0; have q0'' : w8.cell? ⟨vb, 0, none⟩ = some (str x.a) := B8.cell 0; have q1'' : w8.cell? ⟨vb, 1, none⟩ = some (str x.by_) := B8.cell 1; have q2'' : w8.cell? ⟨vb, 2, none⟩ = some (.int .u16 x.n) := B8.cell 2; have q3'' : w8.cell? ⟨vb, 3, none⟩ = some (.int .u8 x.b.toNat) := B8.cell 3; have q4'' : w8.cell? ⟨vb, 4, none⟩ = some (.bool x.clean) := B8.cell 4; have q5'' : w8.cell? ⟨vb, 5, none⟩ = some (.int .i8 x.fuse) := B8.cell 5; have HD8 := Lib.hid hd8.now; have hbl8 := Below.only_trans b7 ho8 b7.size (fun i hi => Nat.le_of_not_lt (fun hc => hi (.inl (.inl hc)))); clear hd8 ho8))
        have hth8 : w8.cell? ⟨tb + 1, k, none⟩ = some (.bool (th.getD k false)) := by
          rw [H8.cell]
          simp [thC, HFO.out.lth, hk3]
        have fth8 := H8.free k
        have hcs := cnt_set th k (by rw [HFO.out.lth]; exact hk3)
        clear B6 S6 T6 H6 b6 B7 S7 T7 H7 b7 HD7 HD6 s0 q0 q1 q2 q3 q4 q5 a0 q0' q1' q2' q3' q4' q5' c0 l1 l2' lab
        cases hth : th.getD k false with
        | false =>
          rw [hth] at hth8 hcs
          simp only [Bool.false_eq_true, if_false] at hcs
          have Hcs := Lib.hid (show ((th.filter id).length : Int) + 1 = (((th.set k true).filter id).length : Int) by omega)
          have H9 := H8.set k (.bool true)
          have o9 : Only (· = tb + 1) w8 (w8.setCell ⟨tb + 1, k, none⟩ (.bool true)) := (Only.refl (· = tb + 1) w8).setCell (p := ⟨tb + 1, k, none⟩) (.inl rfl) _
          have T9 := T8.only o9 (by omega)
          have S9 := S8.only o9 (by omega)
          have B9 := B8.only o9 (by have := HVB.out; omega)
          have HD9 := Lib.hid (HD8.out.write o9 (fun b e => .inl (.inr (.inr (.inl e)))))
          have hbl9 := hbl8.setCell (p := ⟨tb + 1, k, none⟩) (by simp only; omega) (.bool true)
          have z0 : (w8.setCell ⟨tb + 1, k, none⟩ (.bool true)).cell? ⟨vb, 0, none⟩ = some (str x.a) := B9.cell 0
          have z1 : (w8.setCell ⟨tb + 1, k, none⟩ (.bool true)).cell? ⟨vb, 1, none⟩ = some (str x.by_) := B9.cell 1
          have z2 : (w8.setCell ⟨tb + 1, k, none⟩ (.bool true)).cell? ⟨vb, 2, none⟩ = some (.int .u16 x.n) := B9.cell 2
          have z3 : (w8.setCell ⟨tb + 1, k, none⟩ (.bool true)).cell? ⟨vb, 3, none⟩ = some (.int .u8 x.b.toNat) := B9.cell 3
          have z4 : (w8.setCell ⟨tb + 1, k, none⟩ (.bool true)).cell? ⟨vb, 4, none⟩ = some (.bool x.clean) := B9.cell 4
          have z5 : (w8.setCell ⟨tb + 1, k, none⟩ (.bool true)).cell? ⟨vb, 5, none⟩ = some (.int .i8 x.fuse) := B9.cell 5
          have e9 : (thC th).setIfInBounds k (.bool true) = thC (th.set k true) := by simp [thC]
          rw [e9] at H9
          have hcl : ((th.filter id).length : Int) ≤ 3 := by have := List.length_filter_le id th; have := HFO.out.lth; omega
          clear hcs hth H8 T8 S8 B8 HD8 hbl8 e9 o9
          go_wp2_with fail
          rw [Hcs.out, HA.out]
          clear hth8 fth8 z0 z1 z2 z3 z4 z5 hcl q0'' q1'' q2'' q3'' q4'' q5''
          generalize w8.setCell ⟨tb + 1, k, none⟩ (.bool true) = w9 at H9 T9 S9 B9 HD9 hbl9 ⊢
          refine (acttext_any _ x HXO.out.n).mono ?_
          rintro e w10 ⟨rfl, hb10⟩
          have H10 := H9.below hb10 H9.lt
          have T10 := T9.below hb10 T9.lt
          have S10 := S9.below hb10 S9.lt
          have hbl10 := hbl9.trans (hb10.mono hbl9.size)
          have HD10 := HD9.out.below hb10
          obtain ⟨uT, cT⟩ := T10.at k (by simp [txC, HFO.out.ltx]; omega)
          have fT := T10.free k
          have T11 := T10.set k (str (actT x))
          have e11 : (txC tx).setIfInBounds k (str (actT x)) = txC (tx.set k (actT x)) := by simp [txC]
          rw [e11] at T11
          have o11 : Only (· = tb) w10 (w10.setCell ⟨tb, k, none⟩ (str (actT x))) := (Only.refl (· = tb) w10).setCell (p := ⟨tb, k, none⟩) (.inl rfl) _
          have H11 := H10.only o11 (by omega)
          have S11 := S10.only o11 (by omega)
          have HD11 := Lib.hid ((HD10.weaken (K' := fun b => b < w.heap.size ∨ b = tb ∨ b = tb + 1 ∨ b = tb + 1 + 1) (fun b e => .inl e)).write o11 (fun b e => .inr (.inl e)))
          have hbl11 := hbl10.setCell (p := ⟨tb, k, none⟩) (by simp only; omega) (str (actT x))
          have HF11 := Lib.hid HSt.out.2
          clear H9 T9 S9 B9 HD9 hbl9 hb10 H10 T10 S10 hbl10 HD10 e11 o11
          go_wp2_with fail
          generalize w10.setCell ⟨tb, k, none⟩ (str (actT x)) = w11 at T11 H11 S11 HD11 hbl11 ⊢
          clear cT fT
          generalize saveD D (key3 k) spareS (actT x) = D1 at HD11 HF11 ⊢
          generalize th.set k true = th1 at H11 HF11 ⊢
          generalize tx.set k (actT x) = tx1 at T11 HF11 ⊢
          clear HSt HSF HFO Hcs HA HVB HLW
          go_loopw [61] (fun ii wr => ∃ i : Nat, i ≤ 3 ∧ ii = .int .i64 i ∧ DFrom (fun b => b < w.heap.size ∨ b = tb ∨ b = tb + 1 ∨ b = tb + 1 + 1) wr wr p D1 ∧ Blk wr tb 34 (txC tx1) ∧ Blk wr (tb + 1) 35 (thC th1) ∧ Blk wr (tb + 1 + 1) 9 #[.string { data := #[97] }, .string { data := #[98] }, .string { data := #[99] }] ∧ Below w.heap.size w wr) (fun ii _ => 3 - (intOf ii).toNat)
          case atStart => exact ⟨0, by omega, rfl, HD11.out, T11, H11, S11, hbl11⟩
          case round =>
            clear HD11 T11 H11 S11 hbl11
            obtain ⟨i, hi, rfl, hD, hT, hH, hS, hbl⟩ := hrel
            by_cases hi3 : i < 3
            · have ci0 : (0 : Int) ≤ (i : Int) := by omega
              have ci3 : (i : Int) < 3 := by omega
              have s0 : wr.cell? ⟨tb + 1 + 1, i, none⟩ = some (str (key3 i)) := by
                rw [hS.cell]
                match i, hi3 with
                | 0, _ | 1, _ | 2, _ => rfl
              obtain ⟨t, e, hR⟩ := loadR_form D1 (key3 i)
              have HL := Lib.hid (load_from hD (key3 i) (key3_len i) (HF11.out.readT _))
              rw [hR] at HL
              have HFL : Hid (th1.getD i false = true → t = tx1.getD i [] ∧ e = 0) := Lib.hid (fun hth => by
                have := HF11.out.load i hi3 hth
                rw [hR] at this
                simpa using this)
              have HHt := Lib.hid hH
              have HTt := Lib.hid hT
              have HSt := Lib.hid hS
              clear hD hR
              go_wp2_with fail
              refine HL.out.mono ?_
              rintro e2 w2' ⟨rfl, hb12, hd12⟩
              have h12 := HHt.out.below hb12 HHt.out.lt
              have t12 := HTt.out.below hb12 HTt.out.lt
              have s12 := HSt.out.below hb12 HSt.out.lt
              have hbl12 := hbl.trans (hb12.mono hbl.size)
              have HD12 := Lib.hid hd12.now
              have cth : w2'.cell? ⟨tb + 1, i, none⟩ = some (.bool (th1.getD i false)) := by
                rw [h12.cell]
                simp [thC, HF11.out.lth, hi3]
              have ctx : w2'.cell? ⟨tb, i, none⟩ = some (str (tx1.getD i [])) := by
                rw [t12.cell]
                simp [txC, HF11.out.ltx, hi3]
              clear hd12 hT hH hS s0 HL HHt HTt HSt
              cases hth : th1.getD i false with
              | true =>
                obtain ⟨rfl, rfl⟩ := HFL.out hth
                rw [hth] at cth
                clear hth
                generalize tx1.getD i [] = tt at ctx ⊢
                go_wp2
                go_roundw
                case rel => exact ⟨i + 1, by omega, by go_num, HD12.out, t12, h12, s12, hbl12⟩
                case measure => simp [intOf]; omega
              | false =>
                rw [hth] at cth
                clear hth ctx
                go_wp2
                go_roundw
                case rel => exact ⟨i + 1, by omega, by go_num, HD12.out, t12, h12, s12, hbl12⟩
                case measure => simp [intOf]; omega
            · go_wp2
              go_roundw
              case rel => exact ⟨j + 1, D1, th1, tx1, by omega, by go_num, rfl, HF11.out, hD, hT, hH, hS, hbl⟩
              case measure => simp [intOf]; omega
        | true =>
          rw [hth] at hth8 hcs
          simp only [if_true] at hcs
          have Hcs := Lib.hid (show ((th.filter id).length : Int) = (((th.set k true).filter id).length : Int) by omega)
          have e9 : thC th = thC (th.set k true) := by
            have hk' : k < th.length := by rw [HFO.out.lth]; exact hk3
            exact congrArg thC (List.set_eq_self_iff_of_getD hk' hth)
          rw [e9] at H8
          clear hcs hth e9
          go_wp2_with fail
          rw [Hcs.out, HA.out]
          clear hth8 fth8 q0'' q1'' q2'' q3'' q4'' q5''
          obtain ⟨w9, hw9⟩ : ∃ w9, w9 = w8 := ⟨_, rfl⟩
          rw [← hw9] at H8 T8 S8 B8 HD8 hbl8 ⊢
          clear hw9
          have H9 := H8
          have T9 := T8
          have S9 := S8
          have B9 := B8
          have HD9 := HD8
          have hbl9 := hbl8
          clear H8 T8 S8 B8 HD8 hbl8
          refine (acttext_any _ x HXO.out.n).mono ?_
          rintro e w10 ⟨rfl, hb10⟩
          have H10 := H9.below hb10 H9.lt
          have T10 := T9.below hb10 T9.lt
          have S10 := S9.below hb10 S9.lt
          have hbl10 := hbl9.trans (hb10.mono hbl9.size)
          have HD10 := HD9.out.below hb10
          obtain ⟨uT, cT⟩ := T10.at k (by simp [txC, HFO.out.ltx]; omega)
          have fT := T10.free k
          have T11 := T10.set k (str (actT x))
          have e11 : (txC tx).setIfInBounds k (str (actT x)) = txC (tx.set k (actT x)) := by simp [txC]
          rw [e11] at T11
          have o11 : Only (· = tb) w10 (w10.setCell ⟨tb, k, none⟩ (str (actT x))) := (Only.refl (· = tb) w10).setCell (p := ⟨tb, k, none⟩) (.inl rfl) _
          have H11 := H10.only o11 (by omega)
          have S11 := S10.only o11 (by omega)
          have HD11 := Lib.hid ((HD10.weaken (K' := fun b => b < w.heap.size ∨ b = tb ∨ b = tb + 1 ∨ b = tb + 1 + 1) (fun b e => .inl e)).write o11 (fun b e => .inr (.inl e)))
          have hbl11 := hbl10.setCell (p := ⟨tb, k, none⟩) (by simp only; omega) (str (actT x))
          have HF11 := Lib.hid HSt.out.2
          clear H9 T9 S9 B9 HD9 hbl9 hb10 H10 T10 S10 hbl10 HD10 e11 o11
          go_wp2_with fail
          generalize w10.setCell ⟨tb, k, none⟩ (str (actT x)) = w11 at T11 H11 S11 HD11 hbl11 ⊢
          clear cT fT
          generalize saveD D (key3 k) spareS (actT x) = D1 at HD11 HF11 ⊢
          generalize th.set k true = th1 at H11 HF11 ⊢
          generalize tx.set k (actT x) = tx1 at T11 HF11 ⊢
          clear HSt HSF HFO Hcs HA HVB HLW
          go_loopw [61] (fun ii wr => ∃ i : Nat, i ≤ 3 ∧ ii = .int .i64 i ∧ DFrom (fun b => b < w.heap.size ∨ b = tb ∨ b = tb + 1 ∨ b = tb + 1 + 1) wr wr p D1 ∧ Blk wr tb 34 (txC tx1) ∧ Blk wr (tb + 1) 35 (thC th1) ∧ Blk wr (tb + 1 + 1) 9 #[.string { data := #[97] }, .string { data := #[98] }, .string { data := #[99] }] ∧ Below w.heap.size w wr) (fun ii _ => 3 - (intOf ii).toNat)
          case atStart => exact ⟨0, by omega, rfl, HD11.out, T11, H11, S11, hbl11⟩
          case round =>
            clear HD11 T11 H11 S11 hbl11
            obtain ⟨i, hi, rfl, hD, hT, hH, hS, hbl⟩ := hrel
            by_cases hi3 : i < 3
            · have ci0 : (0 : Int) ≤ (i : Int) := by omega
              have ci3 : (i : Int) < 3 := by omega
              have s0 : wr.cell? ⟨tb + 1 + 1, i, none⟩ = some (str (key3 i)) := by
                rw [hS.cell]
                match i, hi3 with
                | 0, _ | 1, _ | 2, _ => rfl
              obtain ⟨t, e, hR⟩ := loadR_form D1 (key3 i)
              have HL := Lib.hid (load_from hD (key3 i) (key3_len i) (HF11.out.readT _))
              rw [hR] at HL
              have HFL : Hid (th1.getD i false = true → t = tx1.getD i [] ∧ e = 0) := Lib.hid (fun hth => by
                have := HF11.out.load i hi3 hth
                rw [hR] at this
                simpa using this)
              have HHt := Lib.hid hH
              have HTt := Lib.hid hT
              have HSt := Lib.hid hS
              clear hD hR
              go_wp2_with fail
              refine HL.out.mono ?_
              rintro e2 w2' ⟨rfl, hb12, hd12⟩
              have h12 := HHt.out.below hb12 HHt.out.lt
              have t12 := HTt.out.below hb12 HTt.out.lt
              have s12 := HSt.out.below hb12 HSt.out.lt
              have hbl12 := hbl.trans (hb12.mono hbl.size)
              have HD12 := Lib.hid hd12.now
              have cth : w2'.cell? ⟨tb + 1, i, none⟩ = some (.bool (th1.getD i false)) := by
                rw [h12.cell]
                simp [thC, HF11.out.lth, hi3]
              have ctx : w2'.cell? ⟨tb, i, none⟩ = some (str (tx1.getD i [])) := by
                rw [t12.cell]
                simp [txC, HF11.out.ltx, hi3]
              clear hd12 hT hH hS s0 HL HHt HTt HSt
              cases hth : th1.getD i false with
              | true =>
                obtain ⟨rfl, rfl⟩ := HFL.out hth
                rw [hth] at cth
                clear hth
                generalize tx1.getD i [] = tt at ctx ⊢
                go_wp2
                go_roundw
                case rel => exact ⟨i + 1, by omega, by go_num, HD12.out, t12, h12, s12, hbl12⟩
                case measure => simp [intOf]; omega
              | false =>
                rw [hth] at cth
                clear hth ctx
                go_wp2
                go_roundw
                case rel => exact ⟨i + 1, by omega, by go_num, HD12.out, t12, h12, s12, hbl12⟩
                case measure => simp [intOf]; omega
            · go_wp2
              go_roundw
              case rel => exact ⟨j + 1, D1, th1, tx1, by omega, by go_num, rfl, HF11.out, hD, hT, hH, hS, hbl⟩
              case measure => simp [intOf]; omega
      · obtain rfl : j = xs.length := by omega
        have HL := Lib.hid (load_from hD spareS (by decide) (hFO.readT _))
        rw [hFO.load_spare] at HL
        have HNm := Lib.hid hFO.names
        have HFine := Lib.hid (hFO.bd.fine (by omega) (by decide) (by omega))
        clear hT hH hS hD hFO
        go_wp2_with fail
        refine HL.out.mono ?_
        rintro e2 w2' ⟨rfl, hb12, hd12⟩
        go_wp2_with fail
        refine (names_from hd12 HFine.out).mono ?_
        rintro e3 w13 ⟨v13, rfl, hr13, hb13, hd13⟩
        obtain ⟨A13, c13, rfl, hc13, hg13⟩ := row_form hr13
        rw [HNm.out]
        have hbl13 := (hbl.trans (hb12.mono hbl.size)).trans (hb13.mono (by have := hbl.size; have := hb12.size; omega))
        clear hr13 hd13 hd12 hc13 hg13 HL
        go_wp2
        go_ret
        exact ⟨by simp, hbl13⟩
end Go.Proofs.Ytkbmhghellimcaa
