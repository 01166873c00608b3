/- The walk of (*node).kept: what a file has behind a loss of power. -/
import Derived.Test.YtkbmhghellimcaaDskj
namespace Go.Proofs.Ytkbmhghellimcaa
open Go.RowKit
open Go.Maps (Keyed)
attribute [local go_sem] size_str get_str

/-- What the block of 'kept' holds when j bytes are laid. -/
def keptC (now sure : Str) (mask n j : Nat) : Array Value := ((List.range j).map (fun i => Value.int .u8 ((keptB now sure mask i).toNat : Int)) ++ List.replicate (n - j) (Value.int .u8 0)).toArray
theorem keptC_zero (now sure : Str) (mask n : Nat) : keptC now sure mask n 0 = (List.replicate n (Value.int .u8 0)).toArray := by simp [keptC]
theorem size_keptC (now sure : Str) (mask n j : Nat) (h : j ≤ n) : (keptC now sure mask n j).size = n := by simp [keptC]; omega
theorem keptC_set (now sure : Str) (mask n j : Nat) (h : j < n) : (keptC now sure mask n j).setIfInBounds j (.int .u8 ((keptB now sure mask j).toNat : Int)) = keptC now sure mask n (j + 1) := by
  unfold keptC
  rw [List.range_succ, show n - j = (n - (j + 1)) + 1 by omega, List.replicate_succ]
  simp [List.set_append]
theorem keptC_same (now sure : Str) (mask n j : Nat) (h : j < n) (h0 : keptB now sure mask j = 0) : keptC now sure mask n j = keptC now sure mask n (j + 1) := by
  unfold keptC
  rw [List.range_succ, show n - j = (n - (j + 1)) + 1 by omega, List.replicate_succ]
  simp [h0]

theorem kbit_one (m k : Nat) (hm : m < 18446744073709551616) : (bits .and .u64 ((m / 2 ^ k : Nat) : Int) 1 == 1) = m.testBit k := by
  have h1 : m / 2 ^ k < 18446744073709551616 := Nat.lt_of_le_of_lt (Nat.div_le_self _ _) hm
  have e : bits .and .u64 ((m / 2 ^ k : Nat) : Int) ((1 : Nat) : Int) = ((m / 2 ^ k &&& 1 : Nat) : Int) := u64_and_nat _ _ h1 (by omega)
  rw [Nat.testBit_eq_decide_div_mod_eq]
  show (bits .and .u64 ((m / 2 ^ k : Nat) : Int) ((1 : Nat) : Int) == 1) = _
  rw [e, Nat.and_one_is_mod]
  rw [Bool.eq_iff_iff, beq_iff_eq, decide_eq_true_eq]
  omega
theorem bit_63 (m : Nat) (hm : m < 18446744073709551616) : (bits .and .u64 ((m : Int) / 9223372036854775808) 1 == 1) = m.testBit 63 := by
  have := kbit_one m 63 hm
  rw [← this]
  rfl
theorem bit_at (m k : Nat) (hm : m < 18446744073709551616) : (bits .and .u64 ((m : Int) / 2 ^ k) 1 == 1) = m.testBit k := by
  have := kbit_one m k hm
  rw [← this, Int.natCast_ediv, Int.natCast_pow]
  rfl
theorem kb_now {now sure : Str} {mask j : Nat} (hb : mask.testBit (j / 64 % 63) = true) (hl : j < now.length) : keptB now sure mask j = now[j] := by
  simp [keptB, bitN, hb, hl]
theorem kb_now0 {now sure : Str} {mask j : Nat} (hb : mask.testBit (j / 64 % 63) = true) (hl : ¬ j < now.length) : keptB now sure mask j = 0 := by
  simp [keptB, bitN, hb, List.getD_eq_getElem?_getD, List.getElem?_eq_none (Nat.le_of_not_lt hl)]
theorem kb_sure {now sure : Str} {mask j : Nat} (hb : mask.testBit (j / 64 % 63) = false) (hl : j < sure.length) : keptB now sure mask j = sure[j] := by
  simp [keptB, bitN, hb, hl]
theorem kb_sure0 {now sure : Str} {mask j : Nat} (hb : mask.testBit (j / 64 % 63) = false) (hl : ¬ j < sure.length) : keptB now sure mask j = 0 := by
  simp [keptB, bitN, hb, List.getD_eq_getElem?_getD, List.getElem?_eq_none (Nat.le_of_not_lt hl)]
theorem length_keptT (now sure : Str) (mask : Nat) : (keptT now sure mask).length = if bitN mask 63 then now.length else sure.length := by simp [keptT]

set_option maxRecDepth 100000 in
set_option maxHeartbeats 1600000 in
theorem kept_walk (w : World) (nb : Nat) (now sure : Str) (mask n : Nat) (bb : Bool) (hb : Blk w nb 79 #[str now, str sure]) (hm : mask < 18446744073709551616) (hn : now.length < 1000000) (hs : sure.length < 1000000)
    (h63 : mask.testBit 63 = bb) (hsz : (if bb then now.length else sure.length) = n) (res : Str) (hres : res = (List.range n).map (keptB now sure mask)) :
    Calls Try.prog 39 #[.pointer (some ⟨nb, 0, none⟩), .int .u64 mask] w fun e w' => e = .returned (str res) ∧ Below w.heap.size w w' := by
  have c0 : w.cell? ⟨nb, 0, none⟩ = some (str now) := hb.cell 0
  have c1 : w.cell? ⟨nb, 1, none⟩ = some (str sure) := hb.cell 1
  have hq := bit_63 mask hm
  rw [h63] at hq
  have hn6 : n < 1000000 := by rw [← hsz]; split <;> assumption
  have hmk := fun W => run_make_one (P := Try.prog) 68 5 (.int .u8 0) 1 Try.underlying68 (by kernel_rfl) rfl n (by omega) (by unfold maxLen; omega) W
  have HB := Lib.hid hb
  have HR := Lib.hid hres
  have HM := Lib.hid hm
  clear hb hres h63
  cases bb
  all_goals
    simp only [if_true, if_false, Bool.false_eq_true] at hsz
    rw [← hsz] at hmk
    have Hsz := Lib.hid hsz
    clear hsz
    go_enter Try.func39, Try.ntmps39
    go_wp2
    simp only [Hsz.out]
    clear hq hmk
    go_loopw [27, 7, 8] (fun i _ _ wr => ∃ j : Nat, j ≤ n ∧ i = .int .i64 j ∧ Blk wr w.heap.size 5 (keptC now sure mask n j) ∧ Below w.heap.size w wr) (fun i _ _ _ => n - (intOf i).toNat)
    case atStart => exact ⟨0, Nat.zero_le _, rfl, by rw [keptC_zero]; exact Blk.new _ _ _, (Below.refl _ _).alloc (Nat.le_refl _) _⟩
    case round =>
      obtain ⟨j, hj, rfl, hbk, hbl⟩ := hrel
      by_cases hlt : j < n
      · have d0 : wr.cell? ⟨nb, 0, none⟩ = some (str now) := (hbl.cell (p := ⟨nb, 0, none⟩) HB.out.lt).trans c0
        have d1 : wr.cell? ⟨nb, 1, none⟩ = some (str sure) := (hbl.cell (p := ⟨nb, 1, none⟩) HB.out.lt).trans c1
        obtain ⟨u, hc⟩ := hbk.at j (by rw [size_keptC _ _ _ _ _ hj]; omega)
        have hf := hbk.free j
        go_wp2
        all_goals
          have hbt : mask.testBit (j / 64 % 63) = true ∨ mask.testBit (j / 64 % 63) = false := by cases mask.testBit (j / 64 % 63) <;> simp
          refine ⟨⟨j + 1, by omega, by go_num, ?_, ?_⟩, by simp [intOf]; omega⟩
        all_goals
          first
          | exact hbl
          | exact hbl.setCell (Nat.le_refl _) _
          | (rename_i hbit hlen
             rw [bit_at _ _ HM.out] at hbit
             first
             | (have e := kb_now (now := now) (sure := sure) hbit hlen
                rw [← e, ← keptC_set now sure mask n j hlt]
                exact hbk.set j _)
             | (have e := kb_now0 (now := now) (sure := sure) hbit hlen
                rw [← keptC_same now sure mask n j hlt e]
                exact hbk)
             | (have e := kb_sure (now := now) (sure := sure) hbit hlen
                rw [← e, ← keptC_set now sure mask n j hlt]
                exact hbk.set j _)
             | (have e := kb_sure0 (now := now) (sure := sure) hbit hlen
                rw [← keptC_same now sure mask n j hlt e]
                exact hbk))
      · obtain rfl : j = n := by omega
        have hcv := hbk.string (P := Try.prog) 68 9 5 Try.underlying68 Try.underlying5 Try.underlying9 res j j (by rw [HR.out]; simp) (fun i hi => by
          have hi' : i < j := by rw [HR.out] at hi; simpa using hi
          simp [keptC, HR.out, hi'])
        go_wp2
        go_ret
        exact ⟨rfl, hbl⟩
theorem kept_any (w : World) (nb : Nat) (now sure : Str) (mask : Nat) (hb : Blk w nb 79 #[str now, str sure]) (hm : mask < 18446744073709551616) (hn : now.length < 1000000) (hs : sure.length < 1000000) :
    Calls Try.prog 39 #[.pointer (some ⟨nb, 0, none⟩), .int .u64 mask] w fun e w' => e = .returned (str (keptT now sure mask)) ∧ Below w.heap.size w w' :=
  kept_walk w nb now sure mask _ _ hb hm hn hs rfl rfl _ rfl
end Go.Proofs.Ytkbmhghellimcaa
