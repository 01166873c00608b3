/- The walks of digest.Sum and digest.Text. -/
import Derived.Test.YtkbmhghellimcaaWhole
import Derived.Deep.RegionWith
namespace Go.Proofs.Ytkbmhghellimcaa
open Go.RowKit
attribute [local go_sem] size_str get_str ByteArray.extract_mk

theorem extract_all (l : List UInt8) (n : Nat) (h : l.length ≤ n) : (ByteArray.mk l.toArray).extract 0 n = ByteArray.mk l.toArray := by
  rw [ByteArray.extract_mk]
  simp
  exact List.take_of_length_le h
theorem run_copy_string {P : Program} (w : World) (dT sT ty elem : TypeId) (hu : P.underlying dT = some (.slice elem)) (hs : (P.info? elem).map (·.size) = some 1)
    (g o dLen dCap : Nat) (cur : Array Value) (t : TypeId) (l : List UInt8) (hb : Blk w g t cur) (hn : l.length ≤ dLen) (hfit : o + l.length ≤ cur.size) :
    (Builtin.copy_ #[dT, sT] ty #[.slice (some ⟨g, o, none⟩) dLen dCap, str l]).run P w =
      .ok (goInt l.length) (w.setRow g (cur.toList.take o ++ l.map (fun b => Value.int .u8 b.toNat) ++ cur.toList.drop (o + l.length)).toArray) := by
  have hst := run_storeCells_at P g o t (l.map (fun b => Value.int .u8 b.toNat)) 0 cur w hb (by simpa using hfit) (by simp [Value.oneCell'])
  cases hq : P.info? elem with
  | none => simp [hq] at hs
  | some i =>
    have hi : i.size = 1 := by simpa [hq] using hs
    have hmin : Nat.min (ByteArray.mk l.toArray).size dLen = l.length := by rw [size_str]; exact Nat.min_eq_left hn
    have hex : (ByteArray.mk l.toArray).extract 0 l.length = ByteArray.mk l.toArray := extract_all l _ (Nat.le_refl _)
    have hcs : (l.toArray.map (fun b : UInt8 => Value.int .u8 b.toNat)).toList = l.map (fun b => Value.int .u8 b.toNat) := by simp
    simp [Builtin.copy_, run_underlying hu, Builtin.lenOf, Builtin.firstCells, sizeOf, typeInfo, hq, hi, hmin, hex]
    try simp only [List.length_map, Nat.add_zero] at hst
    rw [List.take_of_length_le (by simp), hst]
    simp
def strLen : Value → Nat
  | .string s => s.size
  | _ => 0
def zero32 : Array Value := Array.replicate 32 (.int .u8 0)
theorem blocks_step (m : Nat) (h : V8) (r : List UInt8) : blocks (m + 1) h keysL r = blocks m (mixV h keysL (r.take 64)) keysL (r.drop 64) := rfl
theorem whole_mod (s : List UInt8) : ∃ m, (wholeL s).length = 64 * (m + 1) := by
  have : (wholeL s).length = s.length + 1 + (64 - (s.length + 9) % 64) % 64 + 8 := by simp [wholeL, length_putL]; omega
  exact ⟨(wholeL s).length / 64 - 1, by omega⟩
theorem keys_one : ((keysL.map U).toArray).all (·.oneCell') = true := by
  rw [Array.all_eq_true_iff_forall_mem]
  intro x hx
  simp only [List.mem_toArray, List.mem_map] at hx
  obtain ⟨y, _, rfl⟩ := hx
  rfl
/-- The bytes of a sum, of k words. -/
def outC (g : V8) (k : Nat) : Array Value := (((g.list.take k).flatMap (fun n => putL n.toNat 4)).map (fun b => Value.int .u8 b.toNat) ++ List.replicate (32 - 4 * k) (Value.int .u8 0)).toArray
theorem length_words (l : List B32) : (l.flatMap (fun n => putL n.toNat 4)).length = 4 * l.length := by
  induction l with
  | nil => rfl
  | cons x l ih => rw [List.flatMap_cons, List.length_append, ih, length_putL, List.length_cons]; omega
theorem size_outC (g : V8) (k : Nat) (hk : k ≤ 8) : (outC g k).size = 32 := by
  unfold outC
  have : (g.list.take k).length = k := by simp [V8.list]; omega
  simp only [List.size_toArray, List.length_append, List.length_map, List.length_replicate, length_words, this]
  omega
theorem outC_one (g : V8) (k : Nat) : (outC g k).all (·.oneCell') = true := by
  unfold outC
  rw [Array.all_eq_true_iff_forall_mem]
  intro x hx
  simp only [List.mem_toArray, List.mem_append, List.mem_map, List.mem_replicate] at hx
  rcases hx with ⟨y, _, rfl⟩ | ⟨_, rfl⟩ <;> rfl
theorem outC_zero (g : V8) : outC g 0 = #[.int .u8 0, .int .u8 0, .int .u8 0, .int .u8 0, .int .u8 0, .int .u8 0, .int .u8 0, .int .u8 0, .int .u8 0, .int .u8 0, .int .u8 0, .int .u8 0, .int .u8 0, .int .u8 0, .int .u8 0, .int .u8 0, .int .u8 0, .int .u8 0, .int .u8 0, .int .u8 0, .int .u8 0, .int .u8 0, .int .u8 0, .int .u8 0, .int .u8 0, .int .u8 0, .int .u8 0, .int .u8 0, .int .u8 0, .int .u8 0, .int .u8 0, .int .u8 0] := rfl
theorem outC_step (g : V8) (k : Nat) (hk : k < 8) : ((outC g k).toList.take (4 * k) ++ (putL (g.list.getD k 0).toNat 4).map (fun b => Value.int .u8 b.toNat) ++ (outC g k).toList.drop (4 * k + 4)).toArray = outC g (k + 1) := by
  have hlen : g.list.length = 8 := rfl
  have hlt : (g.list.take k).length = k := by simp; omega
  have hP : ((g.list.take k).flatMap (fun n => putL n.toNat 4)).length = 4 * k := by rw [length_words, hlt]
  have hs : g.list.take (k + 1) = g.list.take k ++ [g.list.getD k 0] := by
    rw [List.take_succ_eq_append_getElem (by omega)]
    simp [hlen, hk]
  unfold outC
  rw [hs, List.flatMap_append]
  simp only [List.flatMap_cons, List.flatMap_nil, List.append_nil, List.map_append]
  have hM : (((g.list.take k).flatMap (fun n => putL n.toNat 4)).map (fun b => Value.int .u8 b.toNat)).length = 4 * k := by rw [List.length_map, hP]
  generalize ((g.list.take k).flatMap (fun n => putL n.toNat 4)).map (fun b => Value.int .u8 b.toNat) = A at hM ⊢
  congr 1
  rw [List.take_left' hM, ← List.drop_drop, List.drop_left' hM, List.drop_replicate, show 32 - 4 * k - 4 = 32 - 4 * (k + 1) by omega]
theorem eight_index (g : V8) : ∀ (k : Nat), k < 8 → ∀ w : World, (Instr.index 98 (.agg #[U g.a, U g.b, U g.c, U g.d, U g.e, U g.f, U g.g, U g.h]) (.int .i64 (k : Int))).run Try.prog w = .ok (U (g.list.getD k 0)) w
  | 0, _ => fun _ => by kernel_rfl
  | 1, _ => fun _ => by kernel_rfl
  | 2, _ => fun _ => by kernel_rfl
  | 3, _ => fun _ => by kernel_rfl
  | 4, _ => fun _ => by kernel_rfl
  | 5, _ => fun _ => by kernel_rfl
  | 6, _ => fun _ => by kernel_rfl
  | 7, _ => fun _ => by kernel_rfl
  | k + 8, h => by omega
theorem list_one (v : V8) : ((v.list.map U).toArray).all (·.oneCell') = true := by
  rw [Array.all_eq_true_iff_forall_mem]
  intro x hx
  simp only [List.mem_toArray, List.mem_map] at hx
  obtain ⟨y, _, rfl⟩ := hx
  rfl

set_option maxRecDepth 100000 in
set_option maxHeartbeats 4000000 in
theorem sum_walk (M : V8 → List UInt8 → V8) (F : Nat → V8 → List UInt8 → V8) (S I : V8) (KA : Array Value) (r0 : List UInt8) (m0 : Nat)
    (hM : ∀ (h : V8) (kb : Nat) (s : List UInt8) (w : World), Blk w kb 100 KA → s.length = 64 → Calls Try.prog 66 #[.agg #[U h.a, U h.b, U h.c, U h.d, U h.e, U h.f, U h.g, U h.h], .pointer (some ⟨kb, 0, none⟩), str s] w fun e w' => e = .returned (.agg ((M h s).list.map U).toArray) ∧ Below w.heap.size w w')
    (hF : ∀ m h r, F (m + 1) h r = F m (M h (r.take 64)) (r.drop 64)) (hF0 : ∀ h r, F 0 h r = h) (hS : F (m0 + 1) I r0 = S) (hr0 : r0.length = 64 * (m0 + 1))
    (hK1 : KA.all (·.oneCell') = true) (hK2 : KA.size = 64)
    (hfirst : ∀ w, Calls Try.prog 64 #[] w fun e w' => e = .returned (.agg (I.list.map U).toArray) ∧ Below w.heap.size w w')
    (hkeys : ∀ w, Calls Try.prog 65 #[] w fun e w' => e = .returned (.agg KA) ∧ Below w.heap.size w w')
    (v : Value) (l : List UInt8) (w : World)
    (hwhole : ∀ w, Calls Try.prog 62 #[str l] w fun e w' => e = .returned (str r0) ∧ Below w.heap.size w w')
    (hj : ∀ W, Below w.heap.size w W → Calls Try.prog 63 #[v, .string { data := #[] }] W fun e W' => e = .returned (str l) ∧ Below W.heap.size W W') :
    Calls Try.prog 45 #[v] w fun e w' => e = .returned (.agg (outC S 8)) ∧ Below w.heap.size w w' := by
  have HM := Lib.hid hM
  have HF := Lib.hid hF
  have HF0 := Lib.hid hF0
  have HS := Lib.hid hS
  have HR0 := Lib.hid hr0
  have HK1 := Lib.hid hK1
  have HK2 := Lib.hid hK2
  have Hfirst := Lib.hid hfirst
  have Hkeys := Lib.hid hkeys
  have Hwhole := Lib.hid hwhole
  clear hM hF hF0 hS hr0 hK1 hK2 hfirst hkeys hwhole
  have HJ := Lib.hid hj
  clear hj
  go_enter Try.func45, Try.ntmps45
  go_wp2
  refine wp_scope_back 0 (fun a' w' => ∃ (m hb kb : Nat) (h : V8) (r : List UInt8) (u1 u6 u7 u8 u9 u10 u11 u12 u13 u14 u15 u16 u17 u18 u19 u20 u21 u22 u23 u24 u25 u26 u27 u28 u29 u30 u31 u32 u33 u34 u35 : Value), w.heap.size < hb ∧ hb < kb ∧ Hid (r.length = 64 * (m + 1)) ∧ Hid (F (m + 1) h r = S) ∧ Blk w' w.heap.size 83 zero32 ∧ Blk w' hb 98 (h.list.map U).toArray ∧ Blk w' kb 100 KA ∧ Below w.heap.size w w' ∧ a' = { tmps := #[v, u1, .pointer (some ⟨w.heap.size, 0, none⟩), str r, .pointer (some ⟨hb, 0, none⟩), .pointer (some ⟨kb, 0, none⟩), u6, u7, u8, u9, u10, u11, u12, u13, u14, u15, u16, u17, u18, u19, u20, u21, u22, u23, u24, u25, u26, u27, u28, u29, u30, u31, u32, u33, u34, u35], defers := [] }) (fun a' _ => strLen (a'.tmps.getD 3 undef)) rfl ?_ ?_
  · rintro a' w' ⟨m, hb, kb, h, r, u1, u6, u7, u8, u9, u10, u11, u12, u13, u14, u15, u16, u17, u18, u19, u20, u21, u22, u23, u24, u25, u26, u27, u28, u29, u30, u31, u32, u33, u34, u35, hlt1, hlt2, Hr, H, hB0, hBh, hBk, hbl, rfl⟩
    have hr64 : 64 ≤ r.length := by have := Hr.out; omega
    have z0 : w'.cell? ⟨hb, 0, none⟩ = some (U h.a) := hBh.cell 0
    have z1 : w'.cell? ⟨hb, 1, none⟩ = some (U h.b) := hBh.cell 1
    have z2 : w'.cell? ⟨hb, 2, none⟩ = some (U h.c) := hBh.cell 2
    have z3 : w'.cell? ⟨hb, 3, none⟩ = some (U h.d) := hBh.cell 3
    have z4 : w'.cell? ⟨hb, 4, none⟩ = some (U h.e) := hBh.cell 4
    have z5 : w'.cell? ⟨hb, 5, none⟩ = some (U h.f) := hBh.cell 5
    have z6 : w'.cell? ⟨hb, 6, none⟩ = some (U h.g) := hBh.cell 6
    have z7 : w'.cell? ⟨hb, 7, none⟩ = some (U h.h) := hBh.cell 7
    have l0 : (64 : Int) ≤ (r.length : Int) := by omega
    go_wp2
    refine still_region 3 (by kernel_rfl) (by kernel_rfl) ?_
    simp only [List.take_succ_cons, List.take_zero, List.drop_succ_cons, List.drop_zero]
    repeat still_step
    refine wpStill_nil ?_
    go_wp2_with fail
    refine (HM.out h kb (r.take 64) _ hBk.drew (by simp; omega)).mono ?_
    rintro e w2 ⟨rfl, hb2⟩
    have H1 := H.out
    rw [HF.out] at H1
    have H2 := Lib.hid H1
    clear H1 H z0 z1 z2 z3 z4 z5 z6 z7
    generalize M h (r.take 64) = g at H2 ⊢
    have cBh : Blk w2 hb 98 (h.list.map U).toArray := hBh.drew.below hb2 hBh.lt
    have cB0 : Blk w2 w.heap.size 83 zero32 := hB0.drew.below hb2 hB0.lt
    have cBk : Blk w2 kb 100 KA := hBk.drew.below hb2 hBk.lt
    have cbl : Below w.heap.size w w2 := hbl.drew.trans (hb2.mono hbl.size)
    clear hBh hB0 hBk hbl hb2
    have dBh := cBh.setRow (g.list.map U).toArray
    have dB0 := cB0.farRow (show w.heap.size ≠ hb by omega) (g.list.map U).toArray
    have dBk := cBk.farRow (show kb ≠ hb by omega) (g.list.map U).toArray
    have dbl := below_setRow' cbl (show w.heap.size ≤ hb by omega) (g.list.map U).toArray
    have e1 : List.take (r.length - 64) (List.drop 64 r) = r.drop 64 := List.take_of_length_le (by simp)
    have hr2 : (r.drop 64).length = r.length - 64 := by simp
    obtain ⟨r2, hrr⟩ : ∃ r2, r2 = r.drop 64 := ⟨_, rfl⟩
    rw [← hrr] at H2 hr2
    replace e1 := e1.trans hrr.symm
    clear hrr
    by_cases hm : 64 < r.length
    · have hne : r2.isEmpty = false := by
        rw [List.isEmpty_eq_false_iff]; intro hc; rw [hc] at hr2; simp at hr2; omega
      have Hr2 := Lib.hid hr2
      clear hr2 cB0 cBk cbl
      go_wp2_with (refine wpList_store_row rfl 98 (.tmp 4) (.tmp 17) rfl hb (g.list.map U).toArray rfl rfl 98 _ cBh (by kernel_rfl) (by rfl) (list_one g) ?_; generalize w2.setRow hb (g.list.map U).toArray = w3 at dBh dB0 dBk dbl ⊢)
      apply wp_goto
      have hm0 : ∃ m', m = m' + 1 := ⟨m - 1, by have := Hr.out; omega⟩
      obtain ⟨m', rfl⟩ := hm0
      exact ⟨rfl, ⟨m', hb, kb, g, r2, _, _, _, _, _, _, _, _, _, _, _, _, _, _, _, _, _, _, _, _, _, _, _, _, _, _, _, _, _, _, _, hlt1, hlt2, Lib.hid (by rw [Hr2.out, Hr.out]; omega), H2, dB0, dBh, dBk, dbl, rfl⟩, by have := Hr2.out; simp [strLen, ByteArray.size]; omega⟩
    · have hm64 : r.length = 64 := by omega
      have hm0 : m = 0 := by have := Hr.out; omega
      subst hm0
      have hne : r2.isEmpty = true := by rw [List.isEmpty_iff]; apply List.eq_nil_of_length_eq_zero; omega
      have Hg := Lib.hid (show g = S from (HF0.out g r2).symm.trans H2.out)
      have hob : hb < w2.heap.size := cBh.lt
      clear hr2 hm64 hm cB0 cBk cbl H2 Hr hlt2 dBk
      go_wp2_with (first | (refine wpList_store_row rfl 98 (.tmp 4) (.tmp 17) rfl hb (g.list.map U).toArray rfl rfl 98 _ cBh (by kernel_rfl) (by rfl) (list_one g) ?_; generalize w2.setRow hb (g.list.map U).toArray = w3 at dBh dB0 dbl ⊢) | (refine wpList_load_row rfl 98 (.tmp 4) rfl hb rfl 98 (g.list.map U).toArray (0, 0) _ (dBh.alloc _) Try.underlying98 rfl (by kernel_rfl) ?_))
      rw [show (g.list.map U).toArray = #[U g.a, U g.b, U g.c, U g.d, U g.e, U g.f, U g.g, U g.h] from rfl]
      have hob2 : w.heap.size < w3.heap.size := by have := dBh.lt; omega
      have eB0 := dB0.alloc (.cells #[.int .u8 0, .int .u8 0, .int .u8 0, .int .u8 0, .int .u8 0, .int .u8 0, .int .u8 0, .int .u8 0, .int .u8 0, .int .u8 0, .int .u8 0, .int .u8 0, .int .u8 0, .int .u8 0, .int .u8 0, .int .u8 0, .int .u8 0, .int .u8 0, .int .u8 0, .int .u8 0, .int .u8 0, .int .u8 0, .int .u8 0, .int .u8 0, .int .u8 0, .int .u8 0, .int .u8 0, .int .u8 0, .int .u8 0, .int .u8 0, .int .u8 0, .int .u8 0] 83)
      have eBo := Blk.new' (w := w3) rfl 83 #[.int .u8 0, .int .u8 0, .int .u8 0, .int .u8 0, .int .u8 0, .int .u8 0, .int .u8 0, .int .u8 0, .int .u8 0, .int .u8 0, .int .u8 0, .int .u8 0, .int .u8 0, .int .u8 0, .int .u8 0, .int .u8 0, .int .u8 0, .int .u8 0, .int .u8 0, .int .u8 0, .int .u8 0, .int .u8 0, .int .u8 0, .int .u8 0, .int .u8 0, .int .u8 0, .int .u8 0, .int .u8 0, .int .u8 0, .int .u8 0, .int .u8 0, .int .u8 0]
      have ebl := dbl.alloc (by omega) (.cells #[.int .u8 0, .int .u8 0, .int .u8 0, .int .u8 0, .int .u8 0, .int .u8 0, .int .u8 0, .int .u8 0, .int .u8 0, .int .u8 0, .int .u8 0, .int .u8 0, .int .u8 0, .int .u8 0, .int .u8 0, .int .u8 0, .int .u8 0, .int .u8 0, .int .u8 0, .int .u8 0, .int .u8 0, .int .u8 0, .int .u8 0, .int .u8 0, .int .u8 0, .int .u8 0, .int .u8 0, .int .u8 0, .int .u8 0, .int .u8 0, .int .u8 0, .int .u8 0] 83)
      change Code.wp _ _ _ _ (w3.alloc (.cells #[.int .u8 0, .int .u8 0, .int .u8 0, .int .u8 0, .int .u8 0, .int .u8 0, .int .u8 0, .int .u8 0, .int .u8 0, .int .u8 0, .int .u8 0, .int .u8 0, .int .u8 0, .int .u8 0, .int .u8 0, .int .u8 0, .int .u8 0, .int .u8 0, .int .u8 0, .int .u8 0, .int .u8 0, .int .u8 0, .int .u8 0, .int .u8 0, .int .u8 0, .int .u8 0, .int .u8 0, .int .u8 0, .int .u8 0, .int .u8 0, .int .u8 0, .int .u8 0] 83))
      generalize w3.alloc (.cells #[.int .u8 0, .int .u8 0, .int .u8 0, .int .u8 0, .int .u8 0, .int .u8 0, .int .u8 0, .int .u8 0, .int .u8 0, .int .u8 0, .int .u8 0, .int .u8 0, .int .u8 0, .int .u8 0, .int .u8 0, .int .u8 0, .int .u8 0, .int .u8 0, .int .u8 0, .int .u8 0, .int .u8 0, .int .u8 0, .int .u8 0, .int .u8 0, .int .u8 0, .int .u8 0, .int .u8 0, .int .u8 0, .int .u8 0, .int .u8 0, .int .u8 0, .int .u8 0] 83) = w5 at eB0 eBo ebl ⊢
      generalize w3.heap.size = ob at hob2 eBo ⊢
      clear dBh dB0 dbl cBh hob hne e1 hlt1 HJ
      go_loopw [23] (fun i wr => ∃ k : Nat, k ≤ 8 ∧ i = .int .i64 k ∧ Blk wr ob 83 (outC g k) ∧ Blk wr w.heap.size 83 zero32 ∧ Below w.heap.size w wr) (fun i _ => (8 - intOf i).toNat)
      case atStart => exact ⟨0, by omega, rfl, by rw [outC_zero]; exact eBo, eB0, ebl⟩
      case round =>
        clear eBo eB0 ebl
        obtain ⟨k, hk8, rfl, hBo, hB0, hbl⟩ := hrel
        by_cases hlt : k < 8
        · have hix := eight_index g k hlt
          have Hst := Lib.hid (outC_step g k hlt)
          generalize g.list.getD k 0 = x at hix Hst
          have hx0 := n32_lo x
          have hx1 := n32_hi x
          obtain ⟨n, hn⟩ : ∃ n : Nat, n = x.toNat := ⟨_, rfl⟩
          have hn32 : n < 4294967296 := by rw [hn]; exact x.isLt
          have wcv : IntKind.u64.wrap (n32 x) = (n : Int) := by rw [hn]; exact IntWalk.u64_in _ ⟨hx0, by have := hx1; omega⟩
          rw [← hn] at Hst
          have w4k : IntKind.i64.wrap (4 * (k : Int)) = 4 * (k : Int) := IntWalk.i64_in _ (by omega)
          have g4k : (0 : Int) ≤ 4 * (k : Int) := by omega
          have l4k : 4 * (k : Int) ≤ 32 := by omega
          have t4k : (4 * (k : Int)).toNat = 4 * k := by omega
          have Hn := Lib.hid hn
          have Hn32 := Lib.hid hn32
          clear hx0 hx1 hn hn32
          go_wp2
          have HP : Hid (∀ W, Calls Try.prog 60 #[.int .u64 n, .int .i64 4] W fun e W' => e = .returned (str (putL n 4)) ∧ Below W.heap.size W W') := Lib.hid (fun W => put_any n 4 W (by have := Hn32.out; omega) (by omega))
          have HBo := Lib.hid hBo
          have HL4b := Lib.hid (length_putL n 4)
          have HL4 := Lib.hid (show (putL n 4).length ≤ 32 - 4 * k by rw [length_putL]; omega)
          have HL5 := Lib.hid (show 4 * k + (putL n 4).length ≤ (outC g k).size by rw [length_putL, size_outC g k hk8]; omega)
          go_region_with (go_at_call 60; (refine (HP.out _).mono ?_; rintro e w6 ⟨rfl, hb6⟩; have hcp := run_copy_string (P := Try.prog) w6 68 9 3 5 Try.underlying68 (by kernel_rfl) ob (4 * k) (32 - 4 * k) (32 - 4 * k) (outC g k) 83 (putL n 4) (HBo.out.drew.below hb6 HBo.out.lt) HL4.out HL5.out; rw [HL4b.out] at hcp))
          go_wp2
          go_roundw
          case rel =>
            refine ⟨k + 1, by omega, by go_num, ?_, ((hB0.drew.below hb6 hB0.lt).farRow (by omega) _), below_setRow' (hbl.drew.trans (hb6.mono hbl.size)) (by omega) _⟩
            rw [← Hst.out, List.append_assoc]
            exact (HBo.out.drew.below hb6 HBo.out.lt).setRow _
          case measure => simp [intOf]; omega
        · obtain rfl : k = 8 := by omega
          go_wp2_with (first | (refine wpList_load_row rfl 83 (.tmp 6) rfl ob rfl 83 (outC g 8) (0, 0) _ hBo Try.underlying83 rfl (by rw [size_outC g 8 (by decide)]; kernel_rfl) ?_) | (refine wpList_store_row rfl 83 (.tmp 2) (.tmp 35) rfl w.heap.size (outC g 8) rfl rfl 83 zero32 hB0 (by rw [size_outC g 8 (by decide)]; kernel_rfl) (by rw [size_outC g 8 (by decide)]; rfl) (outC_one g 8) ?_))
          simp only [Exit.jump]
          have hB := hB0.setRow (outC g 8)
          refine bodyPost_ret (results_cell_row rfl _ _ w.heap.size 83 (outC g 8) (0, 0) _ rfl hB Try.underlying83 rfl (by rw [size_outC g 8 (by decide)]; kernel_rfl)) rfl ⟨by rw [Hg.out], below_setRow' hbl (Nat.le_refl _) _⟩
  · intro hR
    go_wp2_with fail
    refine (HJ.out _ ?_).mono ?_
    · exact (Below.refl _ _).alloc (Nat.le_refl _) _
    rintro e w1 ⟨rfl, hb1⟩
    go_wp2_with fail
    refine (Hwhole.out _).mono ?_
    rintro e w2 ⟨rfl, hb2⟩
    go_wp2_with fail
    refine (Hfirst.out _).mono ?_
    rintro e w3 ⟨rfl, hb3⟩
    go_wp2_with fail
    refine (Hkeys.out _).mono ?_
    rintro e w4 ⟨rfl, hb4⟩
    have hN1 : w.heap.size + 1 ≤ w1.heap.size := by have := hb1.size; simpa using this
    have hbl4 : Below w.heap.size w w4 := (((((Below.refl _ _).alloc (Nat.le_refl _) _).trans (hb1.mono (by simp))).trans (hb2.mono (by omega))).trans (hb3.mono (by have := hb2.size; omega))).trans (hb4.mono (by have := hb2.size; have := hb3.size; omega))
    have hB4 : Blk w4 w.heap.size 83 zero32 := ((((Blk.new w _ _).below hb1 (by simp)).below hb2 (by omega)).below hb3 (by have := hb2.size; omega)).below hb4 (by have := hb2.size; have := hb3.size; omega)
    have hN4 : w.heap.size < w4.heap.size := hB4.lt
    clear HJ hb1 hb2 hb3 hb4 hN1
    go_wp2_with (first | (refine wpList_store_row rfl 98 (.tmp 4) (.tmp 12) rfl w4.heap.size (I.list.map U).toArray rfl rfl 98 _ ((Blk.new' rfl _ _).alloc _) (by kernel_rfl) (by rfl) (list_one _) ?_) | (refine wpList_store_row rfl 100 (.tmp 5) (.tmp 13) rfl (w4.heap.size + 1) KA rfl rfl 100 _ ((Blk.new' (by simp) _ _).farRow (by omega) _) (by rw [HK2.out]; kernel_rfl) (by rw [HK2.out]; rfl) HK1.out ?_))
    apply wp_label
    rename_i hK
    exact hK _ _ (hR _ _ ⟨m0, w4.heap.size, w4.heap.size + 1, I, r0, _, _, _, _, _, _, _, _, _, _, _, _, _, _, _, _, _, _, _, _, _, _, _, _, _, _, _, _, _, _, _, hN4, by omega, HR0, HS, ((((hB4.alloc _).alloc _).farRow (by omega) _).farRow (by omega) _), ((((Blk.new' rfl _ _).alloc _).setRow _).farRow (by omega) _), (((Blk.new' (by simp) _ _).farRow (by omega) _).setRow _), below_setRow' (below_setRow' ((hbl4.alloc (by omega) _).alloc (by simp; omega) _) (by omega) _) (by omega) _, rfl⟩)

theorem sum_of (v : Value) (l : List UInt8) (w : World) (hl : l.length < 1000000)
    (hj : ∀ W, Below w.heap.size w W → Calls Try.prog 63 #[v, .string { data := #[] }] W fun e W' => e = .returned (str l) ∧ Below W.heap.size W W') :
    Calls Try.prog 45 #[v] w fun e w' => e = .returned (.agg ((shaL l).map (fun b => Value.int .u8 b.toNat)).toArray) ∧ Below w.heap.size w w' := by
  obtain ⟨m, hm⟩ := whole_mod l
  have h := sum_walk (fun h s => mixV h keysL s) (fun m h r => blocks m h keysL r) (sumV l) initV (keysL.map U).toArray (wholeL l) m (fun h kb s w hb hs => mix_any h kb s w hb hs) (fun m h r => rfl) (fun h r => rfl)
    (by show blocks (m + 1) initV keysL (wholeL l) = sumV l; unfold sumV; rw [hm, Nat.mul_div_cancel_left _ (by decide)]) hm keys_one (by simp [keysL]) first_any keys_any v l w (fun W => whole_any l W hl) hj
  have e : outC (sumV l) 8 = ((shaL l).map (fun b => Value.int .u8 b.toNat)).toArray := by
    unfold outC shaL
    rw [List.take_of_length_le (show (sumV l).list.length ≤ 8 from Nat.le_refl _)]
    simp
  rw [e] at h
  exact h
end Go.Proofs.Ytkbmhghellimcaa
