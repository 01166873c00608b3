/- Plain laws: what is sealed opens to what it was. -/
import Derived.Test.YtkbmhghellimcaaOpen
namespace Go.Proofs.Ytkbmhghellimcaa

theorem pow9 : (128 : Nat) ^ 9 * 2 = 18446744073709551616 := by decide
theorem longR_shortF (r : List UInt8) : ∀ (f i acc n : Nat), f + i = 10 → (0 < n ∨ i = 0) → n * 128 ^ i < 18446744073709551616 → longR i acc (shortF f n ++ r) = (acc + n * 128 ^ i, i + (shortF f n).length, 0)
  | 0, i, acc, n, hfi, hn, hb => by
    obtain rfl : i = 10 := by omega
    exfalso
    have h10 : (128 : Nat) ^ 10 = 1180591620717411303424 := by decide
    rw [h10] at hb
    omega
  | f + 1, i, acc, n, hfi, hn, hb => by
    have hp : 0 < (128 : Nat) ^ 9 := Nat.pow_pos (by decide)
    have h9 : i = 9 → n ≤ 1 := by
      rintro rfl
      rw [← pow9, Nat.mul_comm] at hb
      have := Nat.lt_of_mul_lt_mul_left hb
      omega
    unfold shortF
    by_cases hlt : n < 128
    · rw [if_pos hlt]
      have hc : (UInt8.ofNat n).toNat = n := by simp; omega
      show longR i acc (UInt8.ofNat n :: r) = _
      unfold longR
      rw [hc, if_neg (fun h => by have := h9 h.1; omega), if_neg (by omega), if_pos (by omega), Nat.mod_eq_of_lt hlt]
      simp
    · rw [if_neg hlt]
      have hc : (UInt8.ofNat (n % 128 + 128)).toNat = n % 128 + 128 := by simp; omega
      show longR i acc (UInt8.ofNat (n % 128 + 128) :: (shortF f (n / 128) ++ r)) = _
      unfold longR
      rw [hc, if_neg (fun h => by have := h9 h.1; omega), if_pos (by omega)]
      have hnd : n = n / 128 * 128 + n % 128 := by omega
      have e1 : n / 128 * 128 ^ (i + 1) + n % 128 * 128 ^ i = n * 128 ^ i := by
        rw [Nat.pow_succ, Nat.mul_comm (128 ^ i) 128, ← Nat.mul_assoc, ← Nat.add_mul, ← hnd]
      rw [longR_shortF r f (i + 1) _ (n / 128) (by omega) (by omega) (by omega)]
      rw [show (n % 128 + 128) % 128 = n % 128 by omega, List.length_cons]
      simp only [Prod.mk.injEq, and_true]
      omega
theorem longR_short (n : Nat) (r : List UInt8) (h : n < 18446744073709551616) : longR 0 0 (shortL n ++ r) = (n, (shortL n).length, 0) := by
  unfold shortL
  rw [longR_shortF r 10 0 0 n rfl (.inr rfl) (by simpa using h)]
  simp
theorem seal_form (t : List UInt8) : ∃ d : List UInt8, d.length = 16 ∧ sealL t = [79, 84] ++ (shortL t.length ++ (t ++ d)) := by
  refine ⟨(shaL (headL t)).take 16, by simp [length_sha], ?_⟩
  simp [sealL, headL]
theorem openL_seal (t : List UInt8) (h : t.length < 100000) : openL (sealL t) = some t := by
  obtain ⟨d, hd, hs⟩ := seal_form t
  have hl := longR_short t.length (t ++ d) (by omega)
  have hr : (sealL t).drop 2 = shortL t.length ++ (t ++ d) := by rw [hs]; rfl
  have hp : [79, 84].isPrefixOf (sealL t) = true := by rw [hs]; simp
  unfold openL
  rw [if_pos hp, hr]
  dsimp only
  rw [hl]
  dsimp only
  have h1 : t.length = (shortL t.length ++ (t ++ d)).length - (shortL t.length).length - 16 := by simp [hd]
  rw [if_pos ⟨rfl, h1⟩]
  have h2 : ((shortL t.length ++ (t ++ d)).drop (shortL t.length).length).take t.length = t := by simp
  rw [h2, if_pos rfl]
theorem openR_seal (t : List UInt8) (h : t.length < 100000) : openR (sealL t) = .tuple #[str t, .int .i64 0] := by
  unfold openR
  rw [openL_seal t h]
end Go.Proofs.Ytkbmhghellimcaa
