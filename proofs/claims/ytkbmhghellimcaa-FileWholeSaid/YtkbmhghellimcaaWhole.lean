/- The walk of digest.Whole. -/
import Derived.Test.YtkbmhghellimcaaKeys
namespace Go.Proofs.Ytkbmhghellimcaa
open Go.RowKit
attribute [local go_sem] size_str get_str ByteArray.mk_append_mk

theorem repeatL_zero (c : Nat) : Lib.repeatL [(0 : UInt8)] c = List.replicate c 0 := by
  induction c with
  | zero => rfl
  | succ c ih => rw [Lib.repeatL, ih]; rfl
set_option maxRecDepth 100000 in
set_option maxHeartbeats 1000000 in
theorem whole_any (s : List UInt8) (w : World) (hs : s.length < 1000000) :
    Calls Try.prog 62 #[str s] w fun e w' => e = .returned (str (wholeL s)) ∧ Below w.heap.size w w' := by
  have hm : (s.length + 9) % 64 < 64 := Nat.mod_lt _ (by decide)
  have hc : (64 - (s.length + 9) % 64) % 64 < 64 := Nat.mod_lt _ (by decide)
  go_enter Try.func62, Try.ntmps62
  go_wp2_with fail
  rw [show (-(((s.length : Int) + 1 + 8) % 64) % 64) = (((64 - (s.length + 9) % 64) % 64 : Nat) : Int) by omega]
  have H := Lib.hid (show wholeL s = s ++ [128] ++ List.replicate ((64 - (s.length + 9) % 64) % 64) 0 ++ putL (s.length * 8) 8 from rfl)
  generalize (64 - (s.length + 9) % 64) % 64 = c at hc H ⊢
  refine (Try.strings_Repeat ⟨#[0]⟩ c _ (by omega) (by show 1 * c ≤ _; omega)).mono ?_
  rintro e w1 ⟨rfl, hb1⟩
  rw [show Lib.repeatL (ByteArray.mk #[0]).data.toList c = List.replicate c 0 from repeatL_zero c]
  have hl4 : (List.replicate c (0 : UInt8)).length < 64 := by simpa using hc
  generalize List.replicate c (0 : UInt8) = z at hl4 H ⊢
  go_wp2_with fail
  refine (put_any (s.length * 8) 8 _ (by omega) (by omega)).mono ?_
  rintro e w2 ⟨rfl, hb2⟩
  have hl := length_putL (s.length * 8) 8
  have hl3 : (putL (s.length * 8) 8).length ≤ 8 := by omega
  generalize putL (s.length * 8) 8 = l at hl3 H ⊢
  clear hl
  go_wp2
  go_ret
  refine ⟨?_, hb1.trans (hb2.mono hb1.size)⟩
  rw [H.out]
  simp
end Go.Proofs.Ytkbmhghellimcaa
