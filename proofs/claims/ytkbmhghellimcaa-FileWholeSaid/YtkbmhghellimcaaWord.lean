/- The walks of package word. -/
import Derived.Test.YtkbmhghellimcaaHd
namespace Go.Proofs.Ytkbmhghellimcaa
open Go.RowKit
attribute [local go_sem] size_str get_str

/-- The k last bytes of n, the greatest first. -/
def putL : Nat → Nat → List UInt8
  | _, 0 => []
  | n, k + 1 => putL (n / 256) k ++ [UInt8.ofNat n]

theorem length_putL : ∀ (n k : Nat), (putL n k).length = k
  | _, 0 => rfl
  | n, k + 1 => by simp [putL, length_putL]
theorem putL_succ : ∀ (n k : Nat), putL n (k + 1) = UInt8.ofNat (n / 256 ^ k) :: putL n k
  | n, 0 => by simp [putL]
  | n, k + 1 => by
    rw [putL, putL_succ (n / 256) k, putL, Nat.div_div_eq_div_mul, ← Nat.pow_succ']
    rfl

/-- What the block of 'Put' holds when j bytes are laid. -/
def putC (n k j : Nat) : Array Value := (List.replicate (k - j) (Value.int .u8 0) ++ (putL n j).map (fun b => Value.int .u8 b.toNat)).toArray
theorem putC_zero (n k : Nat) : putC n k 0 = Array.replicate k (Value.int .u8 0) := by simp [putC, putL]
theorem size_putC (n k j : Nat) (h : j ≤ k) : (putC n k j).size = k := by simp [putC, length_putL]; omega
theorem putC_set (n k j : Nat) (h : j < k) (i : Nat) (hi : i = k - 1 - j) : (putC n k j).setIfInBounds i (.int .u8 ((UInt8.ofNat (n / 256 ^ j)).toNat : Int)) = putC n k (j + 1) := by
  subst hi
  unfold putC
  rw [putL_succ, show k - j = (k - 1 - j) + 1 by omega, List.replicate_succ', show k - (j + 1) = k - 1 - j by omega]
  simp [List.set_append]

set_option maxRecDepth 100000 in
set_option maxHeartbeats 400000 in
theorem put_any (n k : Nat) (w : World) (hn : n < 18446744073709551616) (hk : k ≤ 8) :
    Calls Try.prog 60 #[.int .u64 n, .int .i64 k] w fun e w' => e = .returned (str (putL n k)) ∧ Below w.heap.size w w' := by
  have hmk := fun W => run_make_one (P := Try.prog) 68 5 (.int .u8 0) 1 Try.underlying68 (by kernel_rfl) rfl k (by omega) (by unfold maxLen; omega) W
  go_enter Try.func60, Try.ntmps60
  go_wp2
  go_loopw [0, 6] (fun x i wr => ∃ j : Nat, j ≤ k ∧ x = .int .u64 ((n / 256 ^ j : Nat) : Int) ∧ i = .int .i64 ((k : Int) - 1 - j) ∧ Blk wr w.heap.size 5 (putC n k j) ∧ Below w.heap.size w wr) (fun _ i _ => (intOf i + 1).toNat)
  case atStart => exact ⟨0, Nat.zero_le _, by simp, by simp, by rw [putC_zero]; exact Blk.new _ _ _, (Below.refl _ _).alloc (Nat.le_refl _) _⟩
  case round =>
    obtain ⟨j, hj, rfl, rfl, hb, hbl⟩ := hrel
    by_cases hlt : j < k
    · obtain ⟨u, hc⟩ := hb.at (k - 1 - j) (by rw [size_putC _ _ _ hj]; omega)
      have hf := hb.free (k - 1 - j)
      go_wp2
      go_roundw
      case rel =>
        refine ⟨j + 1, hlt, ?_, ?_, ?_, hbl.setCell (Nat.le_refl _) _⟩
        · rw [Nat.pow_succ, ← Nat.div_div_eq_div_mul]; simp
        · congr 1; omega
        · have := hb.set (k - 1 - j) (.int .u8 ((UInt8.ofNat (n / 256 ^ j)).toNat : Int))
          rw [putC_set n k j hlt _ rfl] at this
          simpa using this
      case measure => simp [intOf]; omega
    · obtain rfl : j = k := by omega
      have hcv := hb.string (P := Try.prog) 68 9 5 Try.underlying68 Try.underlying5 Try.underlying9 (putL n j) j j (length_putL n j) (fun i hi => by simp [putC, hi])
      go_wp2
      go_ret
      exact ⟨rfl, hbl⟩


/-- The number of bytes, the greatest first. -/
def getL (l : List UInt8) : Nat := l.foldl (fun n b => n * 256 + b.toNat) 0
theorem getL_snoc (l : List UInt8) (b : UInt8) : getL (l ++ [b]) = getL l * 256 + b.toNat := by simp [getL]
theorem foldl_lt (l : List UInt8) : ∀ (a k : Nat), a < 256 ^ k → l.foldl (fun n b => n * 256 + b.toNat) a < 256 ^ (k + l.length) := by
  induction l with
  | nil => intro a k h; simpa using h
  | cons b l ih =>
    intro a k h
    have hb := b.toNat_lt
    have := ih (a * 256 + b.toNat) (k + 1) (by rw [Nat.pow_succ]; omega)
    simp only [List.foldl_cons, List.length_cons]
    rwa [show k + (l.length + 1) = k + 1 + l.length by omega]
theorem getL_lt (l : List UInt8) : getL l < 256 ^ l.length := by
  have := foldl_lt l 0 0 (by simp)
  simpa [getL] using this
theorem getL_take (l : List UInt8) (j : Nat) (h : j < l.length) : getL (l.take (j + 1)) = getL (l.take j) * 256 + l[j].toNat := by
  rw [← getL_snoc, List.take_succ_eq_append_getElem h]
set_option maxRecDepth 100000 in
theorem or_byte (a b : Nat) (ha : a * 256 + b < 18446744073709551616) (hb : b < 256) : bits .or .u64 ((a : Int) * 256) (b : Int) = ((a * 256 + b : Nat) : Int) := by
  have h : ((a : Int) * 256) = ((a * 256 : Nat) : Int) := (Int.natCast_mul a 256).symm
  rw [h, u64_or_nat _ _ (by omega) (by omega), nat_join 8 (a * 256) b (by omega) hb]

theorem ret_tuple_int {k : IntKind} {a b : Int} {v : Value} (h : a = b) : Ending.returned (.tuple #[.int k a, v]) = .returned (.tuple #[.int k b, v]) := by rw [h]
set_option maxRecDepth 100000 in
set_option maxHeartbeats 400000 in
theorem get_any (l : List UInt8) (w : World) (h0 : 0 < l.length) (h8 : l.length ≤ 8) :
    Calls Try.prog 78 #[str l] w fun e w' => e = .returned (.tuple #[.int .u64 (getL l), .int .i64 0]) ∧ w = w' := by
  have he : l.isEmpty = false := by cases l <;> simp_all
  go_enter Try.func78, Try.ntmps78
  go_wp2
  refine wp_scope_back 0 (fun a' w' => w = w' ∧ ∃ (j : Nat) (u1 u6 u7 u8 u9 u10 u11 u12 u13 u14 u15 u16 u17 u18 u19 u20 u21 u22 u23 u24 : Value), j < l.length ∧ a' = { tmps := #[str l, u1, .int .u64 0, .int .i64 0, .int .u64 (getL (l.take j)), .int .i64 j, u6, u7, u8, u9, u10, u11, u12, u13, u14, u15, u16, u17, u18, u19, u20, u21, u22, u23, u24], defers := [] }) (fun a' _ => l.length - (intOf (a'.tmps.getD 5 undef)).toNat) rfl ?_ ?_
  · rintro a' w' ⟨rfl, j, u1, u6, u7, u8, u9, u10, u11, u12, u13, u14, u15, u16, u17, u18, u19, u20, u21, u22, u23, u24, hj, rfl⟩
    have h1 : getL (l.take j) * 256 + l[j].toNat < 18446744073709551616 := by
      rw [← getL_take l j hj]
      have h2 := getL_lt (l.take (j + 1))
      have h3 : (l.take (j + 1)).length ≤ 8 := by simp; omega
      exact Nat.lt_of_lt_of_le h2 (Nat.le_trans (Nat.pow_le_pow_right (by decide) h3) (by decide))
    have h4 : l[j].toNat < 256 := l[j].toNat_lt
    have h5 := or_byte _ _ h1 h4
    rw [← getL_take l j hj] at h5
    go_wp2
    · apply wp_goto
      exact ⟨rfl, ⟨rfl, j + 1, _, _, _, _, _, _, _, _, _, _, _, _, _, _, _, _, _, _, _, _, by omega, rfl⟩, by simp [intOf]; omega⟩
    · simp only [Exit.jump]
      go_ret2
      exact ⟨ret_tuple_int (by rw [List.take_of_length_le (by omega)]), rfl⟩
  · intro hR
    go_wp2
    apply wp_label
    rename_i hK
    exact hK _ _ (hR _ _ ⟨rfl, 0, _, _, _, _, _, _, _, _, _, _, _, _, _, _, _, _, _, _, _, _, h0, rfl⟩)

theorem elem_u8 : Elem Try.prog 68 5 (.int .u8 0) 1 1 := ⟨Try.underlying68, by kernel_rfl, rfl, by decide⟩

/-- A number by sevens of bits; the first argument is fuel. -/
def shortF : Nat → Nat → List UInt8
  | 0, _ => []
  | f + 1, n => if n < 128 then [UInt8.ofNat n] else UInt8.ofNat (n % 128 + 128) :: shortF f (n / 128)
def shortL (n : Nat) : List UInt8 := shortF 10 n
theorem or_more (n : Nat) : bits .or .u8 ((n : Int) % 256) 128 = ((UInt8.ofNat (n % 128 + 128)).toNat : Int) := by
  have h : ∀ b : Fin 256, bits .or .u8 (b.val : Int) 128 = ((UInt8.ofNat (b.val % 128 + 128)).toNat : Int) := by decide +kernel
  have := h ⟨n % 256, Nat.mod_lt _ (by decide)⟩
  simp only at this
  rw [show n % 256 % 128 = n % 128 by omega] at this
  rw [← this]
  rfl
theorem u8_small (n : Nat) (h : n < 256) : ((UInt8.ofNat n).toNat : Int) = n := by simp; omega

set_option maxRecDepth 100000 in
set_option maxHeartbeats 400000 in
theorem short_any (n : Nat) (w : World) (hn : n < 18446744073709551616) :
    Calls Try.prog 24 #[.int .u64 n] w fun e w' => e = .returned (str (shortL n)) ∧ Below w.heap.size w w' := by
  go_enter Try.func24, Try.ntmps24
  go_wp2
  refine wp_scope_back 0 (fun a' w' => ∃ (j m : Nat) (v : Value) (l : List UInt8) (u1 u4 u5 u6 u7 u8 u9 u10 u11 u12 u13 u14 u15 u16 u17 u18 u19 : Value), j < 10 ∧ m < 18446744073709551616 ∧ Hid (m = n / 128 ^ j) ∧ Hid (shortL n = l ++ shortF (10 - j) m) ∧ l.length ≤ j ∧ w'.ownsRow w.heap.size 5 1 v j (l.map (fun b => Value.int .u8 b.toNat)) ∧ Below w.heap.size w w' ∧ a' = { tmps := #[.int .u64 m, u1, .string { data := #[] }, v, u4, u5, u6, u7, u8, u9, u10, u11, u12, u13, u14, u15, u16, u17, u18, u19], defers := [] }) (fun a' _ => (intOf (a'.tmps.getD 0 undef)).toNat) rfl ?_ ?_
  · rintro a' w' ⟨j, m, v, l, u1, u4, u5, u6, u7, u8, u9, u10, u11, u12, u13, u14, u15, u16, u17, u18, u19, hj, hm, H0, H, hl, hown, hb, rfl⟩
    have ho := or_more m
    by_cases hlt : m < 128
    · have H1 := Lib.hid (u8_small m (by omega))
      go_wp2_with (at_builtin; refine wpList_append_new elem_u8 rfl _ _ rfl rfl hown _ rfl rfl (by simp [Value.oneCell']) (by omega) (by unfold maxLen; omega) hb.size ?_; intro v1 w1 hown1 hg1; have hcv := own_string (l := l ++ [UInt8.ofNat m]) (P := Try.prog) (by rw [List.map_append, List.map_singleton, H1.out]; exact hown1) (by omega) 68 9 Try.underlying68 Try.underlying5 Try.underlying9)
      simp only [Exit.jump]
      go_ret
      refine ⟨?_, (hb.alloc hb.size _).grown hg1 (by have := hb.size; simp; omega) (fun k hk => (hown.lt k hk).1)⟩
      rw [H.out, show 10 - j = (9 - j) + 1 by omega, shortF, if_pos hlt]
      rfl
    · go_wp2_with (at_builtin; refine wpList_append_new elem_u8 rfl _ _ rfl rfl hown _ rfl rfl (by simp [Value.oneCell']) (by omega) (by unfold maxLen; omega) hb.size ?_; intro v1 w1 hown1 hg1)
      apply wp_goto
      have hj9 : j + 1 < 10 := by
        apply Classical.byContradiction
        intro hc
        obtain rfl : j = 9 := by omega
        have := H0.out
        rw [show 128 ^ 9 = 9223372036854775808 by decide] at this
        omega
      refine ⟨rfl, ⟨j + 1, m / 128, v1, l ++ [UInt8.ofNat (m % 128 + 128)], _, _, _, _, _, _, _, _, _, _, _, _, _, _, _, _, _, hj9, by omega, Lib.hid (by rw [H0.out, Nat.div_div_eq_div_mul, Nat.pow_succ]), Lib.hid ?_, by simp; omega, by simpa using hown1, (hb.alloc hb.size _).grown hg1 (by have := hb.size; simp; omega) (fun k hk => (hown.lt k hk).1), rfl⟩, ?_⟩
      · rw [H.out, show 10 - j = (10 - (j + 1)) + 1 by omega, shortF, if_neg hlt]; simp
      · simp [intOf]; omega
  · intro hR
    go_wp2
    apply wp_label
    rename_i hK
    exact hK _ _ (hR _ _ ⟨0, n, _, [], _, _, _, _, _, _, _, _, _, _, _, _, _, _, _, _, _, by decide, hn, Lib.hid (by simp), Lib.hid (by simp [shortL]), by simp, World.ownsRow_nil _ _ _ _, Below.refl _ _, rfl⟩)
end Go.Proofs.Ytkbmhghellimcaa
