/- The walk of file.Open. -/
import Derived.Test.YtkbmhghellimcaaSeal
namespace Go.Proofs.Ytkbmhghellimcaa
open Go.RowKit
attribute [local go_sem] size_str get_str ByteArray.mk_append_mk ByteArray.extract_mk

def openR (s : List UInt8) : Value :=
  match openL s with
  | some t => .tuple #[str t, .int .i64 0]
  | none => .tuple #[.string { data := #[] }, .int .i64 23]

theorem longR_bounds : ∀ (l : List UInt8) (i n : Nat), (longR i n l).2.1 ≤ i + l.length ∧ (longR i n l).2.2 ≤ 4
  | [], i, n => by simp [longR]
  | c :: r, i, n => by
    unfold longR
    have ih := longR_bounds r (i + 1) (n + c.toNat % 128 * 128 ^ i)
    split
    · simp
    · split
      · simp only [List.length_cons]; omega
      · split
        · simp
        · simp

set_option maxRecDepth 100000 in
set_option maxHeartbeats 1000000 in
theorem open_any (s : List UInt8) (w : World) (hl : s.length < 50000) :
    Calls Try.prog 8 #[str s] w fun e w' => e = .returned (openR s) ∧ Below w.heap.size w w' := by
  go_enter Try.func8, Try.ntmps8
  go_wp2_with fail
  refine (Try.strings_CutPrefix _ _ _).mono ?_
  rintro e w1 ⟨rfl, rfl⟩
  go_wp2_with fail
  have hrl : (Lib.trimPrefix s [79, 84]).length ≤ s.length := by unfold Lib.trimPrefix; split <;> simp
  refine (long_any _ _ (by omega)).mono ?_
  rintro e w2 ⟨rfl, rfl⟩
  have H : Hid (openR s = match openL s with | some t => .tuple #[str t, .int .i64 0] | none => .tuple #[.string { data := #[] }, .int .i64 23]) := Lib.hid rfl
  have hbd := longR_bounds (Lib.trimPrefix s [79, 84]) 0 0
  cases hp : Lib.hasPrefix s [79, 84] with
  | false =>
    have ho : openR s = .tuple #[.string { data := #[] }, .int .i64 23] := by
      unfold openR openL
      rw [if_neg (by rw [show [79, 84].isPrefixOf s = false from hp]; decide)]
    have Ho := Lib.hid ho
    clear ho hp hbd
    generalize longR 0 0 (Lib.trimPrefix s [79, 84]) = q
    go_wp2
    go_ret2
    exact ⟨by rw [Ho.out]; rfl, Below.refl _ _⟩
  | true =>
    have ht : Lib.trimPrefix s [79, 84] = s.drop 2 := by unfold Lib.trimPrefix; rw [if_pos hp]; rfl
    rw [ht] at hbd hrl ⊢
    have ho : openR s = (let q := longR 0 0 (s.drop 2); if q.2.2 = 0 ∧ q.1 = (s.drop 2).length - q.2.1 - 16 then (if sealL (((s.drop 2).drop q.2.1).take q.1) = s then .tuple #[str (((s.drop 2).drop q.2.1).take q.1), .int .i64 0] else .tuple #[.string { data := #[] }, .int .i64 23]) else .tuple #[.string { data := #[] }, .int .i64 23]) := by
      unfold openR openL
      rw [if_pos (show [79, 84].isPrefixOf s = true from hp)]
      dsimp only
      generalize longR 0 0 (s.drop 2) = q
      by_cases h1 : q.2.2 = 0 ∧ q.1 = (s.drop 2).length - q.2.1 - 16
      · rw [if_pos h1, if_pos h1]
        by_cases h2 : sealL (((s.drop 2).drop q.2.1).take q.1) = s
        · rw [if_pos h2, if_pos h2]
        · rw [if_neg h2, if_neg h2]
      · rw [if_neg h1, if_neg h1]
    have Ho := Lib.hid ho
    clear ho H ht
    generalize s.drop 2 = r at hbd hrl Ho ⊢
    generalize longR 0 0 r = q at hbd Ho ⊢
    obtain ⟨n, k, e⟩ := q
    simp only [Nat.zero_add] at hbd
    obtain ⟨hk, he4⟩ := hbd
    by_cases he : e = 0
    · subst he
      by_cases hn : n = r.length - k - 16
      · by_cases hk16 : k + 16 ≤ r.length
        · have hnn : n + k + 16 = r.length := by omega
          have hq : ((n : Int) == (r.length : Int) - k - 16) = true := by rw [beq_iff_eq]; omega
          have hq2 : ((n : Int) != (r.length : Int) - k - 16) = false := by rw [bne_eq_false_iff_eq]; omega
          have Hn := Lib.hid hn
          clear hn
          have hkn : k + n - k = n := by omega
          have htl : ((r.drop k).take n).length < 100000 := by simp; omega
          have Ho2 := Lib.hid (show openR s = if sealL ((r.drop k).take n) = s then .tuple #[str ((r.drop k).take n), .int .i64 0] else .tuple #[.string { data := #[] }, .int .i64 23] by rw [Ho.out]; exact if_pos ⟨rfl, Hn.out⟩)
          clear Ho
          go_wp2_with fail
          refine (seal_any _ _ htl).mono ?_
          rintro e w2 ⟨rfl, hb2⟩
          by_cases hst : sealL ((r.drop k).take n) = s
          · have he1 : (sealL ((r.drop k).take n) == s) = true := by rw [beq_iff_eq]; exact hst
            have Ho3 := Lib.hid (show openR s = .tuple #[str ((r.drop k).take n), .int .i64 0] by rw [Ho2.out, if_pos hst])
            clear hst Ho2
            generalize sealL ((r.drop k).take n) = z at he1 ⊢
            go_wp2
            go_ret2
            exact ⟨by rw [Ho3.out]; rfl, hb2⟩
          · have he1 : (sealL ((r.drop k).take n) == s) = false := by rw [beq_eq_false_iff_ne]; exact hst
            have Ho3 := Lib.hid (show openR s = .tuple #[.string { data := #[] }, .int .i64 23] by rw [Ho2.out, if_neg hst])
            clear hst Ho2
            generalize sealL ((r.drop k).take n) = z at he1 ⊢
            go_wp2
            go_ret2
            exact ⟨by rw [Ho3.out]; rfl, hb2⟩
        · have Hn := Lib.hid hn
          obtain rfl : n = 0 := by omega
          clear hn
          have hq : (((0 : Nat) : Int) == 0) = true := rfl
          have hkn : k + 0 - k = 0 := by omega
          have htl : ((r.drop k).take 0).length < 100000 := by simp
          have Ho2 := Lib.hid (show openR s = if sealL ((r.drop k).take 0) = s then .tuple #[str ((r.drop k).take 0), .int .i64 0] else .tuple #[.string { data := #[] }, .int .i64 23] by rw [Ho.out]; exact if_pos ⟨rfl, Hn.out⟩)
          clear Ho
          go_wp2_with fail
          refine (seal_any _ _ htl).mono ?_
          rintro e w2 ⟨rfl, hb2⟩
          by_cases hst : sealL ((r.drop k).take 0) = s
          · have he1 : (sealL ((r.drop k).take 0) == s) = true := by rw [beq_iff_eq]; exact hst
            have Ho3 := Lib.hid (show openR s = .tuple #[str ((r.drop k).take 0), .int .i64 0] by rw [Ho2.out, if_pos hst])
            clear hst Ho2
            generalize sealL ((r.drop k).take 0) = z at he1 ⊢
            go_wp2
            go_ret2
            exact ⟨by rw [Ho3.out]; rfl, hb2⟩
          · have he1 : (sealL ((r.drop k).take 0) == s) = false := by rw [beq_eq_false_iff_ne]; exact hst
            have Ho3 := Lib.hid (show openR s = .tuple #[.string { data := #[] }, .int .i64 23] by rw [Ho2.out, if_neg hst])
            clear hst Ho2
            generalize sealL ((r.drop k).take 0) = z at he1 ⊢
            go_wp2
            go_ret2
            exact ⟨by rw [Ho3.out]; rfl, hb2⟩
      · by_cases hk16 : k + 16 ≤ r.length
        · have hq : ((n : Int) == (r.length : Int) - k - 16) = false := by rw [beq_eq_false_iff_ne]; omega
          have hq2 : ((n : Int) != (r.length : Int) - k - 16) = true := by rw [bne_iff_ne]; omega
          have Ho2 := Lib.hid (show openR s = .tuple #[.string { data := #[] }, .int .i64 23] by rw [Ho.out]; exact if_neg (fun h => hn h.2))
          clear Ho hn
          go_wp2
          go_ret2
          exact ⟨by rw [Ho2.out]; rfl, Below.refl _ _⟩
        · have hq : ((n : Int) == 0) = false := by rw [beq_eq_false_iff_ne]; omega
          have hq2 : ((n : Int) != 0) = true := by rw [bne_iff_ne]; omega
          have Ho2 := Lib.hid (show openR s = .tuple #[.string { data := #[] }, .int .i64 23] by rw [Ho.out]; exact if_neg (fun h => hn h.2))
          clear Ho hn
          go_wp2
          go_ret2
          exact ⟨by rw [Ho2.out]; rfl, Below.refl _ _⟩
    · have ho : openR s = .tuple #[.string { data := #[] }, .int .i64 23] := by
        rw [Ho.out]; exact if_neg (fun h => he h.1)
      have Ho2 := Lib.hid ho
      have he1 : ((e : Int) == 0) = false := by rw [beq_eq_false_iff_ne]; omega
      have he2 : ((e : Int) != 0) = true := by rw [bne_iff_ne]; omega
      clear ho Ho he
      go_wp2
      go_ret2
      exact ⟨by rw [Ho2.out]; rfl, Below.refl _ _⟩
end Go.Proofs.Ytkbmhghellimcaa
