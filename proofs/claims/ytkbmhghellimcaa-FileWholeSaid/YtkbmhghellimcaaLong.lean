/- The walk of word.Long: the number that a text begins with. -/
import Derived.Test.YtkbmhghellimcaaWord
namespace Go.Proofs.Ytkbmhghellimcaa
open Go.RowKit
attribute [local go_sem] size_str get_str

/-- The number that a text begins with, behind i bytes of it that said n: the number, its bytes, the error. -/
def longR (i n : Nat) : List UInt8 → Nat × Nat × Nat
  | [] => (0, 0, 3)
  | c :: r =>
    if i = 9 ∧ 1 < c.toNat then (0, 0, 4)
    else if 128 ≤ c.toNat then longR (i + 1) (n + c.toNat % 128 * 128 ^ i) r
    else if 0 < c.toNat ∨ i = 0 then (n + c.toNat % 128 * 128 ^ i, i + 1, 0)
    else (0, 0, 4)

theorem two_pow_seven (i : Nat) : (2 : Nat) ^ (7 * i) = 128 ^ i := by rw [Nat.pow_mul]
set_option maxRecDepth 100000 in
theorem or_seven (n c d i : Nat) (hcd : c = d % 128) (hi : i ≤ 9) (hn : n < 128 ^ i) (hc : c < 128) (h9 : i = 9 → c ≤ 1) :
    bits .or .u64 (n : Int) (IntKind.u64.wrap ((d : Int) % 128 * 2 ^ (7 * i))) = ((n + c * 128 ^ i : Nat) : Int) ∧ n + c * 128 ^ i < 18446744073709551616 := by
  have hb : n + c * 128 ^ i < 18446744073709551616 := by
    by_cases h : i = 9
    · subst h
      have := h9 rfl
      have e : (128 : Nat) ^ 9 = 9223372036854775808 := by decide
      rw [e] at *
      omega
    · have h1 : 128 ^ (i + 1) ≤ 128 ^ 9 := Nat.pow_le_pow_right (by decide) (by omega)
      have e : (128 : Nat) ^ 9 = 9223372036854775808 := by decide
      rw [e, Nat.pow_succ] at h1
      have h2 : c * 128 ^ i ≤ 127 * 128 ^ i := Nat.mul_le_mul_right _ (by omega)
      omega
  refine ⟨?_, hb⟩
  have e : ((d : Int) % 128 * 2 ^ (7 * i)) = ((c * 128 ^ i : Nat) : Int) := by
    rw [← two_pow_seven, Int.natCast_mul, Int.natCast_pow, hcd]; rfl
  rw [e, IntWalk.u64_in _ (by omega), u64_or_nat _ _ (by omega) (by omega), Nat.or_comm, nat_join (7 * i) _ n (by rw [two_pow_seven]; exact Nat.mul_mod_left _ _) (by rw [two_pow_seven]; exact hn)]
  omega
theorem ret3 {k1 k2 k3 : IntKind} {a b c : Int} {t : Nat × Nat × Nat} (h : t = (a.toNat, b.toNat, c.toNat)) (ha : 0 ≤ a) (hb : 0 ≤ b) (hc : 0 ≤ c) : Ending.returned (.tuple #[.int k1 a, .int k2 b, .int k3 c]) = .returned (.tuple #[.int k1 t.1, .int k2 t.2.1, .int k3 t.2.2]) := by
  subst h
  simp only [Int.toNat_of_nonneg ha, Int.toNat_of_nonneg hb, Int.toNat_of_nonneg hc]
set_option maxRecDepth 100000 in
set_option maxHeartbeats 400000 in
set_option maxHeartbeats 1600000 in
theorem long_any (s : List UInt8) (w : World) (hs : s.length < 1000000) :
    Calls Try.prog 27 #[str s] w fun e w' => e = .returned (.tuple #[.int .u64 (longR 0 0 s).1, .int .i64 (longR 0 0 s).2.1, .int .i64 (longR 0 0 s).2.2]) ∧ w = w' := by
  go_enter Try.func27, Try.ntmps27
  go_wp2
  refine wp_scope_back2 0 1 (fun a' w' => w = w' ∧ ∃ (i n : Nat) (u1 u7 u8 u9 u10 u11 u12 u13 u14 u15 u16 u17 u18 u19 u20 u21 u22 u23 u24 u25 u26 u27 u28 u29 u30 u31 u32 u33 u34 u35 u36 u37 u38 u39 u40 : Value), i ≤ s.length ∧ i ≤ 9 ∧ n < 128 ^ i ∧ Hid (longR i n (s.drop i) = longR 0 0 s) ∧ a' = { tmps := #[str s, u1, .int .u64 0, .int .i64 0, .int .i64 0, .int .u64 n, .int .i64 i, u7, u8, u9, u10, u11, u12, u13, u14, u15, u16, u17, u18, u19, u20, u21, u22, u23, u24, u25, u26, u27, u28, u29, u30, u31, u32, u33, u34, u35, u36, u37, u38, u39, u40], defers := [] })
    (fun a' w' => w = w' ∧ Hid (longR 0 0 s = (0, 0, 4)) ∧ ∃ (u0 u1 u2 u3 u4 u5 u6 u7 u8 u9 u10 u11 u12 u13 u14 u15 u16 u17 u18 u19 u20 u21 u22 u23 u24 u25 u26 u27 u28 u29 u30 u31 u32 u33 u34 u35 u36 u37 u38 u39 u40 : Value), a' = { tmps := #[u0, u1, u2, u3, u4, u5, u6, u7, u8, u9, u10, u11, u12, u13, u14, u15, u16, u17, u18, u19, u20, u21, u22, u23, u24, u25, u26, u27, u28, u29, u30, u31, u32, u33, u34, u35, u36, u37, u38, u39, u40], defers := [] }) (fun a' _ => s.length - (intOf (a'.tmps.getD 6 undef)).toNat) rfl rfl ?_ ?_ ?_
  · rintro a' w' ⟨rfl, H, u0, u1, u2, u3, u4, u5, u6, u7, u8, u9, u10, u11, u12, u13, u14, u15, u16, u17, u18, u19, u20, u21, u22, u23, u24, u25, u26, u27, u28, u29, u30, u31, u32, u33, u34, u35, u36, u37, u38, u39, u40, rfl⟩
    go_wp2
    simp only [Exit.noGoto]
    go_ret3
    exact ⟨ret3 H.out (by decide) (by decide) (by decide), rfl⟩
  · rintro a' w' ⟨rfl, i, n, u1, u7, u8, u9, u10, u11, u12, u13, u14, u15, u16, u17, u18, u19, u20, u21, u22, u23, u24, u25, u26, u27, u28, u29, u30, u31, u32, u33, u34, u35, u36, u37, u38, u39, u40, hi, hi9, hn, H, rfl⟩
    by_cases hlt : i < s.length
    · have hc : s[i].toNat < 256 := s[i].toNat_lt
      have hd : s.drop i = s[i] :: s.drop (i + 1) := List.drop_eq_getElem_cons hlt
      have H1 := H.out
      rw [hd, longR] at H1
      clear hd H
      by_cases h9 : i = 9 ∧ 1 < s[i].toNat
      · rw [if_pos h9] at H1
        have H := Lib.hid H1
        clear H1
        obtain ⟨rfl, h1⟩ := h9
        go_wp2
        apply wp_goto
        exact .inr ⟨rfl, rfl, Lib.hid H.out.symm, _, _, _, _, _, _, _, _, _, _, _, _, _, _, _, _, _, _, _, _, _, _, _, _, _, _, _, _, _, _, _, _, _, _, _, _, _, _, _, _, _, rfl⟩
      · rw [if_neg h9] at H1
        obtain ⟨h5, h6⟩ := or_seven n (s[i].toNat % 128) s[i].toNat i rfl hi9 hn (by omega) (by omega)
        generalize hm : n + s[i].toNat % 128 * 128 ^ i = m at *
        by_cases h128 : 128 ≤ s[i].toNat
        · rw [if_pos h128] at H1
          have H := Lib.hid H1
          have Hm := Lib.hid hm
          clear H1 hm
          have : i < 9 := by omega
          go_wp2
          apply wp_goto
          refine .inl ⟨rfl, ⟨rfl, i + 1, m, _, _, _, _, _, _, _, _, _, _, _, _, _, _, _, _, _, _, _, _, _, _, _, _, _, _, _, _, _, _, _, _, _, _, _, by omega, by omega, ?_, H, rfl⟩, by simp [intOf]; omega⟩
          rw [← Hm.out, Nat.pow_succ]
          have : s[i].toNat % 128 * 128 ^ i ≤ 127 * 128 ^ i := Nat.mul_le_mul_right _ (by omega)
          omega
        · rw [if_neg h128] at H1
          by_cases hn9 : i < 9
          · clear h9
            by_cases h0 : 0 < s[i].toNat ∨ i = 0
            · rw [if_pos h0] at H1
              have H := Lib.hid H1
              clear H1
              by_cases h1 : 0 < s[i].toNat
              · clear h0 hm
                go_wp2
                simp only [Exit.jump2]
                go_ret3
                exact ⟨ret3 (by rw [← H.out]; rfl) (by omega) (by omega) (by decide), rfl⟩
              · obtain rfl : i = 0 := by omega
                have h00 : s[0].toNat = 0 := by omega
                clear h0 h1
                obtain rfl : n = 0 := by simpa using hn
                obtain rfl : m = 0 := by rw [← hm, h00]
                have eb : bits .or .u64 0 0 = 0 := by decide
                clear hm h5
                go_wp2
                simp only [Exit.jump2]
                go_ret3
                exact ⟨ret3 H.out.symm (by decide) (by decide) (by decide), rfl⟩
            · rw [if_neg h0] at H1
              have H := Lib.hid H1
              have h00 : s[i].toNat = 0 := by omega
              have hi0 : 0 < i := by omega
              clear H1 hm h0
              go_wp2
              go_step3
              go_wp2
              simp only [Exit.jump2]
              go_ret3
              exact ⟨ret3 H.out.symm (by decide) (by decide) (by decide), rfl⟩
          · obtain rfl : i = 9 := by omega
            have hc1 : ¬ 1 < s[9].toNat := by omega
            have H := Lib.hid H1
            have H5 := Lib.hid h5
            have H6 := Lib.hid h6
            have Hm := Lib.hid hm
            clear H1 hm h5 h9 h6
            by_cases h0 : s[9].toNat = 0
            · go_wp2
              go_step3
              go_wp2
              simp only [Exit.jump2]
              go_ret3
              exact ⟨ret3 (by rw [← H.out, if_neg (by omega)]; rfl) (by decide) (by decide) (by decide), rfl⟩
            · have h1 : s[9].toNat = 1 := by omega
              have e : bits .or .u64 (n : Int) 9223372036854775808 = (m : Int) := by
                rw [← H5.out, h1]; rfl
              have E := Lib.hid e
              clear e
              go_wp2
              simp only [Exit.jump2]
              go_ret3
              refine ⟨?_, rfl⟩
              show Ending.returned (.tuple #[.int .u64 (bits .or .u64 (n : Int) 9223372036854775808), .int .i64 10, .int .i64 0]) = _
              rw [E.out]
              exact ret3 (by rw [← H.out, if_pos (by omega)]; rfl) (by omega) (by omega) (by decide)
    · have hz : i = s.length := by omega
      have H1 := H.out
      rw [List.drop_of_length_le (by omega), longR] at H1
      have H2 := Lib.hid H1
      clear H1 H
      subst hz
      go_wp2
      simp only [Exit.jump2]
      go_ret3
      exact ⟨ret3 H2.out.symm (by decide) (by decide) (by decide), rfl⟩
  · intro hR
    go_wp2
    apply wp_label
    rename_i hK
    exact hK _ _ (hR _ _ ⟨rfl, 0, 0, _, _, _, _, _, _, _, _, _, _, _, _, _, _, _, _, _, _, _, _, _, _, _, _, _, _, _, _, _, _, _, _, _, _, _, by omega, by omega, by decide, Lib.hid rfl, rfl⟩)
end Go.Proofs.Ytkbmhghellimcaa
