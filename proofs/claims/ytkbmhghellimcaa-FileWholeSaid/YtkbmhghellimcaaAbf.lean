/- The walks of package digest: the constants. -/
import Derived.Test.YtkbmhghellimcaaMix
import Derived.Test.YtkbmhghellimcaaShelf
namespace Go.Proofs.Ytkbmhghellimcaa
open Go.RowKit

theorem ret_bool {a b : Bool} (h : a = b) : Ending.returned (.bool a) = .returned (.bool b) := by rw [h]
/-- Is y's power above p times 2 to the 96th, to the 64th? -/
def aboveB (y p : Nat) (three : Bool) : Bool := if three then decide (p * 79228162514264337593543950336 < y * y * y) else decide (p * 18446744073709551616 < y * y)

theorem cmp_parts (K p h l : Nat) (hl : l < K) : p * K < h * K + l ↔ p < h ∨ h = p ∧ 0 < l := by
  rcases Nat.lt_trichotomy p h with hc | hc | hc
  · have := Nat.mul_le_mul_right K (show p + 1 ≤ h from hc)
    rw [Nat.succ_mul] at this
    exact ⟨fun _ => .inl hc, fun _ => by omega⟩
  · subst hc
    exact ⟨fun h => .inr ⟨rfl, by omega⟩, fun h => by omega⟩
  · have := Nat.mul_le_mul_right K (show h + 1 ≤ p from hc)
    rw [Nat.succ_mul] at this
    exact ⟨fun h => by omega, fun h => by omega⟩
theorem above_two (y p h l : Nat) (hl : l < 18446744073709551616) (e : h * 18446744073709551616 + l = y * y) : aboveB y p false = true ↔ p < h ∨ h = p ∧ 0 < l := by
  unfold aboveB
  simp only [Bool.false_eq_true, if_false, decide_eq_true_eq]
  rw [← e]
  exact cmp_parts _ _ _ _ hl
theorem above_three (y p h l c m : Nat) (e : h * 18446744073709551616 + l = y * y) (hm : m < 18446744073709551616) (e2 : c * 18446744073709551616 + m = l * y) :
    aboveB y p true = true ↔ p * 4294967296 < h * y + c ∨ h * y + c = p * 4294967296 ∧ 0 < m := by
  unfold aboveB
  simp only [if_true, decide_eq_true_eq]
  have e3 : y * y * y = (h * y + c) * 18446744073709551616 + m := by
    rw [← e, Nat.add_mul, ← e2, Nat.add_mul, Nat.mul_right_comm, Nat.add_assoc]
  rw [e3, ← cmp_parts _ _ _ _ hm, Nat.mul_assoc]

theorem ret_bool_of {a b : Bool} (hb : b = a) : Ending.returned (.bool a) = .returned (.bool b) := by rw [hb]
set_option maxRecDepth 100000 in
set_option maxHeartbeats 1000000 in
theorem above_f (y p : Nat) (hy : y < 137438953472) (hp : p < 400) (w : World) :
    Calls Try.prog 95 #[.int .u64 y, .int .u64 p, .bool false] w fun e w' => e = .returned (.bool (aboveB y p false)) ∧ w = w' := by
  have hyy : y * y < 18889465931478580854784 := Nat.lt_of_lt_of_le (Nat.mul_lt_mul'' hy hy) (by decide)
  have e : y * y / 18446744073709551616 * 18446744073709551616 + y * y % 18446744073709551616 = y * y := Nat.div_add_mod' _ _
  have hl := Nat.mod_lt (y * y) (show 0 < 18446744073709551616 by decide)
  have hh : y * y / 18446744073709551616 < 1024 := Nat.div_lt_of_lt_mul hyy
  have A2 := Lib.hid (above_two y p _ _ hl e)
  clear e hyy
  go_enter Try.func95, Try.ntmps95
  go_wp2_with fail
  refine (Try.bits_Mul64 y y (by omega) (by omega) _).mono ?_
  rintro e w' ⟨rfl, rfl⟩
  generalize y * y / 18446744073709551616 = h at *
  generalize y * y % 18446744073709551616 = l at *
  by_cases h1 : p < h
  · have hr : aboveB y p false = true := A2.out.2 (.inl h1)
    have Hr := Lib.hid hr
    clear hr A2
    as_aux_lemma =>
      go_wp2
      go_ret
      exact ⟨ret_bool_of (by rw [Hr.out]; try (simp; omega)), rfl⟩
  · by_cases h2 : h = p
    · by_cases h3 : 0 < l
      · have Hr := Lib.hid (show aboveB y p false = true from A2.out.2 (.inr ⟨h2, h3⟩))
        clear A2
        subst h2
        as_aux_lemma =>
          go_wp2
          go_ret
          exact ⟨ret_bool_of (by rw [Hr.out]; try (simp; omega)), rfl⟩
      · have Hr := Lib.hid (show aboveB y p false = false by rw [Bool.eq_false_iff]; intro hc; have := A2.out.1 hc; omega)
        clear A2
        subst h2
        as_aux_lemma =>
          go_wp2
          go_ret
          exact ⟨ret_bool_of (by rw [Hr.out]; try (simp; omega)), rfl⟩
    · have Hr := Lib.hid (show aboveB y p false = false by rw [Bool.eq_false_iff]; intro hc; have := A2.out.1 hc; omega)
      have h4 : h < p := by omega
      clear h1 h2 A2
      as_aux_lemma =>
        go_wp2
        go_ret
        exact ⟨ret_bool_of (by rw [Hr.out]; try (simp; omega)), rfl⟩

end Go.Proofs.Ytkbmhghellimcaa
