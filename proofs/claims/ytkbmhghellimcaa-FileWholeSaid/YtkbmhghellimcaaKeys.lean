/- The walks of package digest: the constants. -/
import Derived.Test.YtkbmhghellimcaaAbt
namespace Go.Proofs.Ytkbmhghellimcaa
open Go.RowKit

/-- Of a power's root, bit by bit: k bits are still to come. -/
def rootF (p : Nat) (three : Bool) : Nat → Nat → Nat
  | 0, x => x
  | k + 1, x => rootF p three k (if aboveB (x + 2 ^ k) p three then x else x + 2 ^ k)
def leastN (p : Nat) (three : Bool) : Nat := rootF p three 37 0 % 4294967296

theorem bit_step (k x b : Nat) (hb : b = 2 ^ k) (hk : k ≤ 36) (hx : x % 2 ^ (k + 1) = 0) (hlt : x + 2 ^ (k + 1) ≤ 137438953472) :
    bits .or .u64 (x : Int) (b : Int) = ((x + b : Nat) : Int) ∧ x + b < 137438953472 ∧ 0 < b ∧ b ≤ 68719476736 := by
  subst hb
  have h1 : 2 ^ k ≤ 2 ^ 36 := Nat.pow_le_pow_right (by decide) hk
  rw [show (2 : Nat) ^ 36 = 68719476736 from rfl] at h1
  have h2 : 0 < 2 ^ k := Nat.two_pow_pos k
  rw [Nat.pow_succ] at hlt
  refine ⟨?_, by omega, h2, h1⟩
  rw [u64_or_nat _ _ (by omega) (by omega), nat_join (k + 1) x _ hx (Nat.pow_lt_pow_right (by decide) (by omega))]

theorem next_mod (k x : Nat) (h : x % 2 ^ (k + 1) = 0) : x % 2 ^ k = 0 ∧ (x + 2 ^ k) % 2 ^ k = 0 := by
  have h0 : x % 2 ^ k = 0 := by
    rw [Nat.pow_succ] at h
    exact Nat.mod_eq_zero_of_dvd (Nat.dvd_trans ⟨2, rfl⟩ (Nat.dvd_of_mod_eq_zero h))
  exact ⟨h0, by rw [Nat.add_mod_right]; exact h0⟩
theorem next_le (k x B : Nat) (h : x + 2 ^ (k + 1) ≤ B) : x + 2 ^ k ≤ B ∧ x + 2 ^ k + 2 ^ k ≤ B := by
  rw [Nat.pow_succ] at h
  omega
theorem next_bit (k b : Nat) (hb : b = 2 ^ (k + 1)) : b / 2 = 2 ^ k := by rw [hb, Nat.pow_succ]; omega
theorem bit_pos (k b : Nat) (hb : b = 2 ^ k) (h : 2 ≤ b) : ∃ j, k = j + 1 := by
  cases k with
  | zero => simp at hb; omega
  | succ k => exact ⟨k, rfl⟩
theorem bit_one (k : Nat) (hb : 1 = 2 ^ k) : k = 0 := by
  cases k with
  | zero => rfl
  | succ k => rw [Nat.pow_succ] at hb; omega
theorem ret_int_of {k : IntKind} {a b : Int} (h : b = a) : Ending.returned (.int k a) = .returned (.int k b) := by rw [h]

set_option maxRecDepth 100000 in
set_option maxHeartbeats 1000000 in
theorem least_any (p : Nat) (three : Bool) (hp : p < 400) (w : World) :
    Calls Try.prog 76 #[.int .u64 p, .bool three] w fun e w' => e = .returned (.int .u32 (leastN p three)) ∧ w = w' := by
  go_enter Try.func76, Try.ntmps76
  go_wp2
  refine wp_scope_back 0 (fun a' w' => w = w' ∧ ∃ (k x b : Nat) (u2 u3 u7 u8 u9 u10 u11 u12 u13 u14 u15 u16 u17 u18 u19 u20 u21 u22 : Value), k ≤ 36 ∧ Hid (b = 2 ^ k) ∧ Hid (x % 2 ^ (k + 1) = 0) ∧ Hid (x + 2 ^ (k + 1) ≤ 137438953472) ∧ Hid (rootF p three (k + 1) x = rootF p three 37 0) ∧ a' = { tmps := #[.int .u64 p, .bool three, u2, u3, .int .u32 0, .int .u64 x, .int .u64 b, u7, u8, u9, u10, u11, u12, u13, u14, u15, u16, u17, u18, u19, u20, u21, u22], defers := [] }) (fun a' _ => (intOf (a'.tmps.getD 6 undef)).toNat) rfl ?_ ?_
  · rintro a' w' ⟨rfl, k, x, b, u2, u3, u7, u8, u9, u10, u11, u12, u13, u14, u15, u16, u17, u18, u19, u20, u21, u22, hk, Hb, Hx, Hl, H, rfl⟩
    obtain ⟨ho, hy, hb0, hb1⟩ := bit_step k x b Hb.out hk Hx.out Hl.out
    go_wp2_with fail
    refine (above_any (x + b) p three hy hp _).mono ?_
    rintro e w' ⟨rfl, rfl⟩
    have H1 := H.out
    rw [rootF, ← Hb.out] at H1
    cases hab : aboveB (x + b) p three with
    | true =>
      rw [hab, if_pos rfl] at H1
      have H2 := Lib.hid H1
      clear H1 H hab
      by_cases hb2 : 2 ≤ b
      · obtain ⟨k, rfl⟩ := bit_pos k b Hb.out hb2
        go_wp2
        apply wp_goto
        refine ⟨rfl, ⟨rfl, k, x, b / 2, _, _, _, _, _, _, _, _, _, _, _, _, _, _, _, _, _, _, by omega, Lib.hid (next_bit _ _ Hb.out), Lib.hid (next_mod _ _ Hx.out).1, Lib.hid (next_le _ _ _ Hl.out).1, H2, rfl⟩, by simp [intOf]; omega⟩
      · obtain rfl : b = 1 := by omega
        obtain rfl := bit_one k Hb.out
        go_wp2
        simp only [Exit.jump]
        go_ret
        refine ⟨ret_int_of ?_, rfl⟩
        unfold leastN
        rw [← H2.out]
        simp [rootF]
    | false =>
      rw [hab, if_neg (by decide)] at H1
      have H2 := Lib.hid H1
      clear H1 H hab
      by_cases hb2 : 2 ≤ b
      · obtain ⟨k, rfl⟩ := bit_pos k b Hb.out hb2
        go_wp2
        apply wp_goto
        refine ⟨rfl, ⟨rfl, k, x + b, b / 2, _, _, _, _, _, _, _, _, _, _, _, _, _, _, _, _, _, _, by omega, Lib.hid (next_bit _ _ Hb.out), Lib.hid (by rw [Hb.out]; exact (next_mod _ _ Hx.out).2), Lib.hid (by rw [Hb.out]; exact (next_le _ _ _ Hl.out).2), H2, rfl⟩, by simp [intOf]; omega⟩
      · obtain rfl : b = 1 := by omega
        obtain rfl := bit_one k Hb.out
        go_wp2
        simp only [Exit.jump]
        go_ret
        refine ⟨ret_int_of ?_, rfl⟩
        unfold leastN
        rw [← H2.out]
        simp [rootF]
  · intro hR
    go_wp2
    apply wp_label
    rename_i hK
    exact hK _ _ (hR _ _ ⟨rfl, 36, 0, 68719476736, _, _, _, _, _, _, _, _, _, _, _, _, _, _, _, _, _, _, by decide, Lib.hid rfl, Lib.hid (by decide), Lib.hid (by decide), Lib.hid rfl, rfl⟩)

/-- Is a small number a prime? -/
def primeB (n : Nat) : Bool := decide (1 < n) && (List.range 21).all (fun d => !(decide (2 ≤ d) && decide (d * d ≤ n) && n % d == 0))
theorem prime_no (n d : Nat) (h2 : 2 ≤ d) (h20 : d ≤ 20) (hq : d * d ≤ n) (hm : n % d = 0) : primeB n = false := by
  unfold primeB
  rw [Bool.and_eq_false_iff]
  right
  rw [List.all_eq_false]
  exact ⟨d, List.mem_range.2 (by omega), by simp [h2, hq, hm]⟩
theorem prime_yes (n e : Nat) (hn : n < 400) (hq : n < e * e) (H : ∀ j, 2 ≤ j → j < e → ¬ (j * j ≤ n ∧ n % j = 0)) : primeB n = decide (1 < n) := by
  unfold primeB
  have : ((List.range 21).all (fun d => !(decide (2 ≤ d) && decide (d * d ≤ n) && n % d == 0))) = true := by
    rw [List.all_eq_true]
    intro d _
    by_cases h2 : 2 ≤ d
    · by_cases hd : d * d ≤ n
      · have hde : d < e := by
          apply Classical.byContradiction
          intro hc
          have := Nat.mul_le_mul (show e ≤ d by omega) (show e ≤ d by omega)
          omega
        have := H d h2 hde
        have hm : ¬ n % d = 0 := fun h => this ⟨hd, h⟩
        simp [hm]
      · simp [hd]
    · simp [h2]
  rw [this, Bool.and_true]

set_option maxRecDepth 100000 in
set_option maxHeartbeats 1000000 in
theorem prime_any (n : Nat) (hn : n < 400) (w : World) :
    Calls Try.prog 77 #[.int .u64 n] w fun e w' => e = .returned (.bool (primeB n)) ∧ w = w' := by
  go_enter Try.func77, Try.ntmps77
  go_wp2
  go_loop [3] (fun d => ∃ e : Nat, 2 ≤ e ∧ e ≤ 20 ∧ d = .int .u64 e ∧ Hid (∀ j, 2 ≤ j → j < e → ¬ (j * j ≤ n ∧ n % j = 0))) (fun d => (20 - intOf d).toNat)
  case atStart => exact ⟨2, by omega, by omega, rfl, Lib.hid (by intro j h1 h2; omega)⟩
  case round =>
    obtain ⟨e, h2, h20, rfl, H⟩ := hrel
    have hq : e * e ≤ 400 := Nat.mul_le_mul h20 h20
    have wq : IntKind.u64.wrap ((e : Int) * (e : Int)) = ((e * e : Nat) : Int) := by
      rw [IntWalk.u64_in _ ⟨by rw [← Int.natCast_mul]; omega, by rw [← Int.natCast_mul]; omega⟩, Int.natCast_mul]
    by_cases hle : e * e ≤ n
    · have he : e < 20 := by
        apply Classical.byContradiction
        intro hc
        obtain rfl : e = 20 := by omega
        omega
      by_cases hm : n % e = 0
      · have Hr := Lib.hid (prime_no n e h2 h20 hle hm)
        have hmi : ((n : Int) % (e : Int) == 0) = true := by rw [beq_iff_eq]; omega
        clear hm
        generalize e * e = q at *
        go_wp2
        go_ret
        exact ⟨ret_bool_of (by rw [Hr.out]), rfl⟩
      · have H2 : Hid (∀ j, 2 ≤ j → j < e + 1 → ¬ (j * j ≤ n ∧ n % j = 0)) := Lib.hid (by
          intro j h1 h3 h4
          by_cases hj : j = e
          · subst hj; exact hm h4.2
          · exact H.out j h1 (by omega) h4)
        have hmi : ((n : Int) % (e : Int) == 0) = false := by rw [beq_eq_false_iff_ne]; omega
        clear hm H
        generalize e * e = q at *
        go_wp2
        go_round
        case rel => exact ⟨e + 1, by omega, by omega, by go_num, H2⟩
        case measure => simp [intOf]; omega
    · have Hr := Lib.hid (prime_yes n e hn (by omega) H.out)
      generalize e * e = q at *
      have hlt : n < q := by omega
      clear hle
      go_wp2
      go_ret
      exact ⟨ret_bool_of (by rw [Hr.out]; simp; omega), rfl⟩

def keyOf (p : Nat) (three : Bool) : B32 := BitVec.ofNat 32 (rootF p three 37 0)
theorem n32_key (p : Nat) (three : Bool) : ((leastN p three : Nat) : Int) = n32 (keyOf p three) := by
  unfold leastN n32 keyOf
  rw [BitVec.toNat_ofNat]
theorem least_u (p : Nat) (three : Bool) (hp : p < 400) (w : World) :
    Calls Try.prog 76 #[.int .u64 p, .bool three] w fun e w' => e = .returned (U (keyOf p three)) ∧ w = w' :=
  (least_any p three hp w).mono fun e w' ⟨he, hw⟩ => ⟨by rw [he, n32_key], hw⟩
/-- The constants of the primes below n. -/
def keysTo (n : Nat) : List B32 := ((List.range n).filter primeB).map (fun p => keyOf p true)
theorem keysTo_yes (n : Nat) (h : primeB n = true) : keysTo (n + 1) = keysTo n ++ [keyOf n true] := by
  unfold keysTo
  rw [List.range_succ, List.filter_append, List.map_append]
  simp [h]
theorem keysTo_no (n : Nat) (h : primeB n = false) : keysTo (n + 1) = keysTo n := by
  unfold keysTo
  rw [List.range_succ, List.filter_append, List.map_append]
  simp [h]
theorem length_keysTo (n : Nat) (h : n ≤ 311) : (keysTo n).length ≤ 63 := by
  have h1 : (keysTo n).length ≤ ((List.range 311).filter primeB).length := by
    unfold keysTo
    rw [List.length_map]
    exact (List.Sublist.filter _ (List.range_sublist.2 h)).length_le
  have h2 : ((List.range 311).filter primeB).length = 63 := by decide +kernel
  omega
theorem keysTo_all : keysTo 312 = keysL := by decide +kernel
theorem prime_last : primeB 311 = true := by decide +kernel
theorem wrow_full (l : List B32) (h : l.length = 64) : wrow l = (l.map U).toArray := by
  unfold wrow
  rw [h]
  simp
theorem wrow_one (l : List B32) : (wrow l).all (·.oneCell') = true := by
  unfold wrow
  rw [Array.all_eq_true_iff_forall_mem]
  intro x hx
  simp at hx
  rcases hx with ⟨y, _, rfl⟩ | ⟨_, rfl⟩ <;> rfl

set_option maxRecDepth 100000 in
set_option maxHeartbeats 1000000 in
theorem keys_any (w : World) :
    Calls Try.prog 65 #[] w fun e w' => e = .returned (.agg (keysL.map U).toArray) ∧ Below w.heap.size w w' := by
  go_enter Try.func65, Try.ntmps65
  go_wp2
  refine wp_scope_back 0 (fun a' w' => ∃ (n k : Nat) (u4 u5 u6 u7 u8 u9 u10 u11 u12 u13 u14 u15 u16 : Value), 2 ≤ n ∧ n ≤ 311 ∧ Hid (k = (keysTo n).length) ∧ Blk w' w.heap.size 100 (wrow []) ∧ Blk w' (w.heap.size + 1) 100 (wrow (keysTo n)) ∧ Below w.heap.size w w' ∧ a' = { tmps := #[.pointer (some ⟨w.heap.size, 0, none⟩), .pointer (some ⟨w.heap.size + 1, 0, none⟩), .int .u64 n, .int .i64 k, u4, u5, u6, u7, u8, u9, u10, u11, u12, u13, u14, u15, u16], defers := [] }) (fun a' _ => (400 - intOf (a'.tmps.getD 2 undef)).toNat) rfl ?_ ?_
  · rintro a' w' ⟨n, k, u4, u5, u6, u7, u8, u9, u10, u11, u12, u13, u14, u15, u16, h2, h311, Hk, hb0, hb1, hbl, rfl⟩
    have hl := length_keysTo n h311
    have hk : k ≤ 63 := by rw [Hk.out]; exact hl
    obtain ⟨u, hc⟩ := hb1.at k (by rw [size_wrow _ (by omega)]; omega)
    have hf := hb1.free k
    by_cases hn : n < 311
    · have hl2 := length_keysTo (n + 1) (by omega)
      cases hp : primeB n with
      | true =>
        have Hp := Lib.hid hp
        have hk2 : k + 1 ≤ 63 := by rw [keysTo_yes n hp] at hl2; simp at hl2; rw [Hk.out]; omega
        clear hl2 hp hl
        go_wp2_with fail
        refine (prime_any n (by omega) _).mono ?_
        rintro e w1 ⟨rfl, rfl⟩
        rw [Hp.out]
        go_wp2_with fail
        refine (least_u n true (by omega) _).mono ?_
        rintro e w1 ⟨rfl, rfl⟩
        go_wp2
        apply wp_goto
        refine ⟨rfl, ⟨n + 1, k + 1, _, _, _, _, _, _, _, _, _, _, _, _, _, by omega, by omega, Lib.hid ?_, hb0.far (by simp) _, ?_, hbl.setCell (by simp) _, rfl⟩, by simp [intOf]; omega⟩
        · rw [keysTo_yes n Hp.out, Hk.out]; simp
        · have := hb1.set k (U (keyOf n true))
          rw [wrow_set _ _ (by have := length_keysTo n h311; omega) _ Hk.out, ← keysTo_yes n Hp.out] at this
          exact this
      | false =>
        have Hp := Lib.hid hp
        clear hl2 hp hl
        go_wp2_with fail
        refine (prime_any n (by omega) _).mono ?_
        rintro e w1 ⟨rfl, rfl⟩
        rw [Hp.out]
        go_wp2
        apply wp_goto
        refine ⟨rfl, ⟨n + 1, k, _, _, _, _, _, _, _, _, _, _, _, _, _, by omega, by omega, Lib.hid ?_, hb0, ?_, hbl, rfl⟩, by simp [intOf]; omega⟩
        · rw [keysTo_no n Hp.out, Hk.out]
        · rw [keysTo_no n Hp.out]; exact hb1
    · obtain rfl : n = 311 := by omega
      have hk63 : k = 63 := by
        have h1 := congrArg List.length (keysTo_yes 311 prime_last)
        rw [keysTo_all] at h1
        simp [keysL] at h1
        rw [Hk.out]; omega
      subst hk63
      have Hp := Lib.hid prime_last
      have hz1 := hb1.set 63 (U (keyOf 311 true))
      rw [wrow_set _ _ (by omega) _ Hk.out, ← keysTo_yes 311 prime_last, keysTo_all] at hz1
      have hz0 := hb0.far (p := ⟨w.heap.size + 1, 63, none⟩) (by simp) (U (keyOf 311 true))
      clear hl
      go_wp2_with fail
      refine (prime_any 311 (by omega) _).mono ?_
      rintro e w1 ⟨rfl, rfl⟩
      rw [Hp.out]
      go_wp2_with fail
      refine (least_u 311 true (by omega) _).mono ?_
      rintro e w1 ⟨rfl, rfl⟩
      go_wp2_with (first | (refine wpList_load_row rfl 100 _ rfl (w.heap.size + 1) rfl 100 (wrow keysL) (0, 0) _ hz1 Try.underlying100 rfl (by kernel_rfl) ?_) | (refine wpList_store_row rfl 100 _ _ rfl w.heap.size (wrow keysL) rfl rfl 100 (wrow []) hz0 (by kernel_rfl) (by kernel_rfl) (wrow_one _) ?_))
      simp only [Exit.jump]
      have hB := hz0.setRow (wrow keysL)
      refine bodyPost_ret (results_cell_row rfl _ _ w.heap.size 100 (wrow keysL) (0, 0) _ rfl hB Try.underlying100 rfl (by kernel_rfl)) rfl ⟨?_, ?_⟩
      · rw [wrow_full keysL rfl]
      · exact below_setRow' (hbl.setCell (by simp) _) (Nat.le_refl _) _
  · intro hR
    go_wp2
    apply wp_label
    rename_i hK
    exact hK _ _ (hR _ _ ⟨2, 0, _, _, _, _, _, _, _, _, _, _, _, _, _, by decide, by decide, Lib.hid (by decide +kernel), (Blk.new' (by simp) _ _).alloc _, Blk.new' (by simp) _ _, ((Below.refl _ _).alloc (Nat.le_refl _) _).alloc (by simp) _, rfl⟩)

/-- The words of nothing, k of them laid. -/
def firstC (k : Nat) : Array Value := ((initV.list.take k).map U ++ List.replicate (8 - k) (Value.int .u32 0)).toArray
theorem size_firstC (k : Nat) (h : k ≤ 8) : (firstC k).size = 8 := by simp [firstC, V8.list]; omega
theorem firstC_one : (firstC 8).all (·.oneCell') = true := by
  rw [Array.all_eq_true_iff_forall_mem]
  intro x hx
  unfold firstC at hx
  simp only [List.mem_toArray, List.mem_append, List.mem_map] at hx
  rcases hx with ⟨y, _, rfl⟩ | hx
  · rfl
  · simp at hx
def smallP (k : Nat) : Nat := [2, 3, 5, 7, 11, 13, 17, 19].getD k 0
theorem firstC_set : ∀ k : Nat, k < 8 → (firstC k).setIfInBounds k (U (keyOf (smallP k) false)) = firstC (k + 1)
  | 0, _ => by rw [show keyOf (smallP 0) false = initV.a by decide +kernel]; rfl
  | 1, _ => by rw [show keyOf (smallP 1) false = initV.b by decide +kernel]; rfl
  | 2, _ => by rw [show keyOf (smallP 2) false = initV.c by decide +kernel]; rfl
  | 3, _ => by rw [show keyOf (smallP 3) false = initV.d by decide +kernel]; rfl
  | 4, _ => by rw [show keyOf (smallP 4) false = initV.e by decide +kernel]; rfl
  | 5, _ => by rw [show keyOf (smallP 5) false = initV.f by decide +kernel]; rfl
  | 6, _ => by rw [show keyOf (smallP 6) false = initV.g by decide +kernel]; rfl
  | 7, _ => by rw [show keyOf (smallP 7) false = initV.h by decide +kernel]; rfl
  | k + 8, h => by omega
theorem smallP_lt (k : Nat) : smallP k < 400 := by
  unfold smallP
  match k with
  | 0 | 1 | 2 | 3 | 4 | 5 | 6 | 7 => decide
  | k + 8 => simp
theorem small_index : ∀ (k : Nat), k < 8 → ∀ w : World, (Instr.index 115 (.agg #[.int .u64 2, .int .u64 3, .int .u64 5, .int .u64 7, .int .u64 11, .int .u64 13, .int .u64 17, .int .u64 19]) (.int .i64 (k : Int))).run Try.prog w = .ok (.int .u64 (smallP k)) w
  | 0, _ => fun _ => by kernel_rfl
  | 1, _ => fun _ => by kernel_rfl
  | 2, _ => fun _ => by kernel_rfl
  | 3, _ => fun _ => by kernel_rfl
  | 4, _ => fun _ => by kernel_rfl
  | 5, _ => fun _ => by kernel_rfl
  | 6, _ => fun _ => by kernel_rfl
  | 7, _ => fun _ => by kernel_rfl
  | k + 8, h => by omega

set_option maxRecDepth 100000 in
set_option maxHeartbeats 1000000 in
theorem first_any (w : World) :
    Calls Try.prog 64 #[] w fun e w' => e = .returned (.agg (initV.list.map U).toArray) ∧ Below w.heap.size w w' := by
  go_enter Try.func64, Try.ntmps64
  go_wp2
  go_loopw [5] (fun i wr => ∃ k : Nat, k ≤ 8 ∧ i = .int .i64 k ∧ Blk wr w.heap.size 98 (firstC 0) ∧ Blk wr (w.heap.size + 1) 98 (firstC k) ∧ Below w.heap.size w wr) (fun i _ => (8 - intOf i).toNat)
  case atStart => exact ⟨0, by omega, rfl, (Blk.new' (by simp) _ _).alloc _, Blk.new' (by simp) _ _, ((Below.refl _ _).alloc (Nat.le_refl _) _).alloc (by simp) _⟩
  case round =>
    obtain ⟨k, hk, rfl, hb0, hb1, hbl⟩ := hrel
    by_cases hlt : k < 8
    · obtain ⟨u, hc⟩ := hb1.at k (by rw [size_firstC _ hk]; exact hlt)
      have hf := hb1.free k
      have hix := small_index k hlt
      have hst := firstC_set k hlt
      have hp := smallP_lt k
      have Hst := Lib.hid hst
      clear hst
      generalize smallP k = p at hix hp Hst
      go_wp2_with fail
      refine (least_u p false hp _).mono ?_
      rintro e w1 ⟨rfl, rfl⟩
      go_wp2
      go_roundw
      case rel => exact ⟨k + 1, by omega, by go_num, hb0.far (by simp) _, by rw [← Hst.out]; exact hb1.set k _, hbl.setCell (by simp) _⟩
      case measure => simp [intOf]; omega
    · obtain rfl : k = 8 := by omega
      go_wp2_with (first | (refine wpList_load_row rfl 98 _ rfl (w.heap.size + 1) rfl 98 (firstC 8) (0, 0) _ hb1 Try.underlying98 rfl (by kernel_rfl) ?_) | (refine wpList_store_row rfl 98 _ _ rfl w.heap.size (firstC 8) rfl rfl 98 (firstC 0) hb0 (by kernel_rfl) (by kernel_rfl) firstC_one ?_))
      have hB := hb0.setRow (firstC 8)
      refine bodyPost_ret (results_cell_row rfl _ _ w.heap.size 98 (firstC 8) (0, 0) _ rfl hB Try.underlying98 rfl (by kernel_rfl)) rfl ⟨rfl, below_setRow' hbl (Nat.le_refl _) _⟩
end Go.Proofs.Ytkbmhghellimcaa
