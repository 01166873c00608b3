/- The walks of package digest: words, rounds, a block. -/
import Derived.Test.YtkbmhghellimcaaSha
import Derived.StillTailTactics
import Derived.Deep.QuietTactic
import Derived.BigQuiet
namespace Go.Proofs.Ytkbmhghellimcaa
open Go.RowKit

/-- A word as the machine's number. -/
def n32 (x : B32) : Int := (x.toNat : Int)
abbrev U (x : B32) : Value := .int .u32 (n32 x)
theorem n32_lo (x : B32) : 0 ≤ n32 x := by unfold n32; omega
theorem n32_hi (x : B32) : n32 x < 4294967296 := by
  have := x.isLt
  unfold n32
  omega
theorem ofInt_n32 (x : B32) : BitVec.ofInt 32 (n32 x) = x := by
  unfold n32
  rw [BitVec.ofInt_natCast, BitVec.ofNat_toNat]
  simp
theorem n32_wrap (x : B32) : IntKind.u32.wrap (x.toNat : Int) = n32 x := IntWalk.u32_in _ ⟨by omega, by have := x.isLt; omega⟩
theorem n32_add (x y : B32) : (n32 x + n32 y) % 4294967296 = n32 (x + y) := by
  unfold n32
  rw [BitVec.toNat_add]
  omega
theorem n32_add4 (x y z u : B32) : (n32 x + n32 y + n32 z + n32 u) % 4294967296 = n32 (x + y + z + u) := by
  rw [← n32_add (x + y + z) u, ← n32_add (x + y) z, ← n32_add x y]
  omega
theorem n32_and (x y : B32) : bits .and .u32 (n32 x) (n32 y) = n32 (x &&& y) := by
  rw [← n32_wrap (x &&& y)]
  show IntKind.u32.wrap ((BitVec.ofInt 32 (n32 x) &&& BitVec.ofInt 32 (n32 y)).toNat : Int) = _
  rw [ofInt_n32, ofInt_n32]
theorem n32_or (x y : B32) : bits .or .u32 (n32 x) (n32 y) = n32 (x ||| y) := by
  rw [← n32_wrap (x ||| y)]
  show IntKind.u32.wrap ((BitVec.ofInt 32 (n32 x) ||| BitVec.ofInt 32 (n32 y)).toNat : Int) = _
  rw [ofInt_n32, ofInt_n32]
theorem n32_xor (x y : B32) : bits .xor .u32 (n32 x) (n32 y) = n32 (x ^^^ y) := by
  rw [← n32_wrap (x ^^^ y)]
  show IntKind.u32.wrap ((BitVec.ofInt 32 (n32 x) ^^^ BitVec.ofInt 32 (n32 y)).toNat : Int) = _
  rw [ofInt_n32, ofInt_n32]
theorem n32_not (x : B32) : bits .xor .u32 IntKind.u32.max (n32 x) = n32 (~~~x) := by
  rw [← n32_wrap (~~~x)]
  show IntKind.u32.wrap ((BitVec.ofInt 32 IntKind.u32.max ^^^ BitVec.ofInt 32 (n32 x)).toNat : Int) = _
  rw [ofInt_n32, show BitVec.ofInt 32 IntKind.u32.max = BitVec.allOnes 32 from by decide, BitVec.allOnes_xor]
theorem u32_sig : IntKind.u32.signed = false := rfl
theorem n32_shr (x : B32) (c : Nat) : n32 x / 2 ^ c = n32 (x >>> c) := by
  unfold n32
  rw [BitVec.toNat_ushiftRight, Nat.shiftRight_eq_div_pow]
  simp
theorem n32_shl (x : B32) (c : Nat) : n32 x * 2 ^ c % 4294967296 = n32 (x <<< c) := by
  unfold n32
  rw [BitVec.toNat_shiftLeft, Nat.shiftLeft_eq]
  simp
theorem n32_rot (x : B32) (c : Nat) (h1 : c < 32) : x <<< (32 - c) ||| x >>> c = x.rotateRight c := by
  rw [BitVec.rotateRight_def, Nat.mod_eq_of_lt h1, BitVec.or_comm]
theorem rot_count (k : Int) (c : Nat) (hk : k = -(c:Int)) (h0 : 0 < c) (h1 : c < 32) : bits .and .u64 (IntKind.u64.wrap k) 31 = ((32 - c : Nat) : Int) := by
  have h : ∀ c : Fin 32, c.val = 0 ∨ bits .and .u64 (IntKind.u64.wrap (-(c.val:Int))) 31 = ((32 - c.val : Nat) : Int) := by decide +kernel
  subst hk
  rcases h ⟨c, h1⟩ with h | h
  · simp at h; omega
  · exact h
attribute [local go_sem] n32_add n32_and n32_or n32_xor n32_shr n32_shl

set_option maxHeartbeats 400000 in
theorem rotl_any (x : B32) (k : Int) (c : Nat) (hk : k = -(c:Int)) (h0 : 0 < c) (h1 : c < 32) (w : World) :
    Calls Try.prog 96 #[U x, .int .i64 k] w fun e w' => e = .returned (U (x.rotateRight c)) ∧ w = w' := by
  have hx := rot_count k c hk h0 h1
  have hb := n32_lo x
  have hb2 := n32_hi x
  have hy : IntKind.u64.wrap (32 - ((32 - c : Nat) : Int)) = c := by rw [IntWalk.u64_in] <;> omega
  have H := Lib.hid hk
  clear hk
  go_enter Try.func96, Try.ntmps96
  go_wp2
  go_ret
  refine ⟨?_, rfl⟩
  rw [← n32_rot x c h1]
  rfl

set_option maxHeartbeats 400000 in
theorem rot_any (x : B32) (a b c : Nat) (sh : Bool) (ha : 0 < a ∧ a < 32) (hb : 0 < b ∧ b < 32) (hc : 0 < c ∧ c < 32) (w : World) :
    Calls Try.prog 79 #[U x, .int .i64 a, .int .i64 b, .int .i64 c, .bool sh] w fun e w' => e = .returned (U (rot3 x a b c sh)) ∧ w = w' := by
  have hx := n32_lo x
  have hx2 := n32_hi x
  cases sh
  · go_enter Try.func79, Try.ntmps79
    go_wp2_with fail
    refine (rotl_any x _ c rfl hc.1 hc.2 _).mono ?_
    rintro e w' ⟨rfl, rfl⟩
    go_wp2_with fail
    refine (rotl_any x _ a rfl ha.1 ha.2 _).mono ?_
    rintro e w' ⟨rfl, rfl⟩
    go_wp2_with fail
    refine (rotl_any x _ b rfl hb.1 hb.2 _).mono ?_
    rintro e w' ⟨rfl, rfl⟩
    go_wp2_with fail
    go_ret
    exact ⟨rfl, rfl⟩
  · go_enter Try.func79, Try.ntmps79
    go_wp2_with fail
    refine (rotl_any x _ c rfl hc.1 hc.2 _).mono ?_
    rintro e w' ⟨rfl, rfl⟩
    go_wp2_with fail
    refine (rotl_any x _ a rfl ha.1 ha.2 _).mono ?_
    rintro e w' ⟨rfl, rfl⟩
    go_wp2_with fail
    refine (rotl_any x _ b rfl hb.1 hb.2 _).mono ?_
    rintro e w' ⟨rfl, rfl⟩
    go_wp2_with fail
    go_ret
    exact ⟨rfl, rfl⟩
end Go.Proofs.Ytkbmhghellimcaa
