/- digest.above at the third power. -/
import Derived.Test.YtkbmhghellimcaaAbf
namespace Go.Proofs.Ytkbmhghellimcaa
open Go.RowKit
set_option maxRecDepth 100000 in
set_option maxHeartbeats 1000000 in
theorem above_t (y p : Nat) (hy : y < 137438953472) (hp : p < 400) (w : World) :
    Calls Try.prog 95 #[.int .u64 y, .int .u64 p, .bool true] w fun e w' => e = .returned (.bool (aboveB y p true)) ∧ w = w' := by
  have hyy : y * y < 18889465931478580854784 := Nat.lt_of_lt_of_le (Nat.mul_lt_mul'' hy hy) (by decide)
  have e : y * y / 18446744073709551616 * 18446744073709551616 + y * y % 18446744073709551616 = y * y := Nat.div_add_mod' _ _
  have hl := Nat.mod_lt (y * y) (show 0 < 18446744073709551616 by decide)
  have hh : y * y / 18446744073709551616 < 1024 := Nat.div_lt_of_lt_mul hyy
  have hl2 : y * y % 18446744073709551616 * y < 2535301200456458802993406410752 := Nat.lt_of_lt_of_le (Nat.mul_lt_mul'' hl hy) (by decide)
  have e2 : y * y % 18446744073709551616 * y / 18446744073709551616 * 18446744073709551616 + y * y % 18446744073709551616 * y % 18446744073709551616 = y * y % 18446744073709551616 * y := Nat.div_add_mod' _ _
  have hm := Nat.mod_lt (y * y % 18446744073709551616 * y) (show 0 < 18446744073709551616 by decide)
  have hc : y * y % 18446744073709551616 * y / 18446744073709551616 < 137438953472 := Nat.div_lt_of_lt_mul hl2
  have A3 := Lib.hid (above_three y p _ _ _ _ e hm e2)
  have hhy : y * y / 18446744073709551616 * y < 140737488355328 := Nat.lt_of_lt_of_le (Nat.mul_lt_mul'' hh hy) (by decide)
  clear e e2 hl2 hyy
  go_enter Try.func95, Try.ntmps95
  go_wp2_with fail
  refine (Try.bits_Mul64 y y (by omega) (by omega) _).mono ?_
  rintro e w' ⟨rfl, rfl⟩
  generalize y * y / 18446744073709551616 = h at *
  generalize y * y % 18446744073709551616 = l at *
  go_wp2_with fail
  refine (Try.bits_Mul64 l y (by omega) (by omega) _).mono ?_
  rintro e w' ⟨rfl, rfl⟩
  generalize l * y / 18446744073709551616 = c at *
  generalize l * y % 18446744073709551616 = m at *
  have w1 : IntKind.u64.wrap ((h : Int) * (y : Int)) = ((h * y : Nat) : Int) := by
    rw [IntWalk.u64_in _ ⟨by rw [← Int.natCast_mul]; omega, by rw [← Int.natCast_mul]; omega⟩, Int.natCast_mul]
  generalize h * y = H at w1 A3 hhy
  clear hl hm hh
  have hm2 : (0 : Int) ≤ m := by omega
  have wq : IntKind.u64.wrap ((p : Int) * 4294967296) = ((p * 4294967296 : Nat) : Int) := by
    rw [IntWalk.u64_in _ ⟨by omega, by omega⟩, Int.natCast_mul]; rfl
  generalize p * 4294967296 = q at wq A3
  by_cases h1 : q < H + c
  · have Hr := Lib.hid (show aboveB y p true = true from A3.out.2 (.inl h1))
    clear A3
    as_aux_lemma =>
      go_wp2
      go_ret
      exact ⟨ret_bool_of (by rw [Hr.out]; try (simp; omega)), rfl⟩
  · by_cases h2 : H + c = q
    · by_cases h3 : 0 < m
      · have Hr := Lib.hid (show aboveB y p true = true from A3.out.2 (.inr ⟨h2, h3⟩))
        clear A3 h1
        subst h2
        as_aux_lemma =>
          go_wp2
          go_ret
          exact ⟨ret_bool_of (by rw [Hr.out]; try (simp; omega)), rfl⟩
      · have Hr := Lib.hid (show aboveB y p true = false by rw [Bool.eq_false_iff]; intro hc; have := A3.out.1 hc; omega)
        clear A3 h1
        subst h2
        as_aux_lemma =>
          go_wp2
          go_ret
          exact ⟨ret_bool_of (by rw [Hr.out]; try (simp; omega)), rfl⟩
    · have Hr := Lib.hid (show aboveB y p true = false by rw [Bool.eq_false_iff]; intro hc; have := A3.out.1 hc; omega)
      have h4 : H + c < q := by omega
      clear h1 h2 A3
      as_aux_lemma =>
        go_wp2
        go_ret
        exact ⟨ret_bool_of (by rw [Hr.out]; try (simp; omega)), rfl⟩

theorem above_any (y p : Nat) (three : Bool) (hy : y < 137438953472) (hp : p < 400) (w : World) :
    Calls Try.prog 95 #[.int .u64 y, .int .u64 p, .bool three] w fun e w' => e = .returned (.bool (aboveB y p three)) ∧ w = w' := by
  cases three
  · exact above_f y p hy hp w
  · exact above_t y p hy hp w
end Go.Proofs.Ytkbmhghellimcaa
