/- The walk of file.Clean. -/
import Derived.Test.YtkbmhghellimcaaWhLaw
namespace Go.Proofs.Ytkbmhghellimcaa
open Go.RowKit
attribute [local go_sem] size_str get_str

theorem removeE_cases (D : DiskS) (s : Str) : removeE D s = 0 ∨ removeE D s = 12 ∨ removeE D s = 15 := by
  unfold removeE thereE stepE
  repeat' split
  all_goals simp_all
theorem lst_str_at {w : World} {A : Option Addr} {l : List Str} (h : Lst w A (l.map str)) {k : Nat} (hk : k < l.length) : ∃ b o, A = some ⟨b, o, none⟩ ∧ w.cell? ⟨b, o + k, none⟩ = some (str l[k]) := h.at_ (by simp [hk])
set_option maxRecDepth 100000 in
set_option maxHeartbeats 1600000 in
theorem clean_from {K : Nat → Prop} {p : Nat} {w0 w : World} {D : DiskS} (h : DFrom K w0 w p D) (A : Option Addr) (c : Nat) (l : List Str) (hl : Lst w0 A (l.map str)) (hc : l.length ≤ c) (hA : ∀ a, A = some a → K a.block) (hs : ∀ s ∈ l, s.length ≤ maxLen) (hll : l.length < 1000000) (hF : CleanFine D l) :
    Calls Try.prog 19 #[.pointer (some ⟨p, 0, none⟩), .slice A l.length c] w fun e w' => e = .returned (.int .i64 (cleanR D false l).1) ∧ DFrom K w0 w' p (cleanR D false l).2 := by
  have h := Lib.hid h
  have HL := Lib.hid hl
  have HA := Lib.hid hA
  have HS := Lib.hid hs
  have HF := Lib.hid hF
  clear hl hA hs hF
  go_enter Try.func19, Try.ntmps19
  go_wp2
  go_loopw [11, 5] (fun i b wr => ∃ (k : Nat) (bb : Bool) (D' : DiskS), k ≤ l.length ∧ i = .int .i64 k ∧ b = .bool bb ∧ DFrom K w0 wr p D' ∧ CleanFine D' (l.drop k) ∧ cleanR D' bb (l.drop k) = cleanR D false l) (fun i _ _ => l.length - (intOf i).toNat)
  case atStart => exact ⟨0, false, D, Nat.zero_le _, rfl, rfl, h.out, HF.out, rfl⟩
  case round =>
    obtain ⟨k, bb, D', hk, rfl, rfl, hD, hCF, hR⟩ := hrel
    by_cases hlt : k < l.length
    · have hdr : l.drop k = l[k] :: l.drop (k + 1) := List.drop_eq_getElem_cons hlt
      obtain ⟨b, o, rfl, hcell⟩ := lst_str_at (HL.out.only hD.only (fun a ha hS => hS (HA.out a ha))) hlt
      rw [hdr] at hCF hR
      have hsl : l[k].length ≤ maxLen := HS.out _ (List.getElem_mem _)
      obtain ⟨s, hse⟩ : ∃ s, l[k] = s := ⟨_, rfl⟩
      rw [hse] at hcell hCF hR hsl
      clear hse hdr
      obtain ⟨hF1, hF2⟩ := hCF
      have HRM := remove_from hD s hsl hF1
      have HF2 := Lib.hid hF2
      clear hD hF1 hF2
      rcases removeE_cases D' s with e | e | e
      · have HR : Hid (cleanR (removeD D' s) true (l.drop (k + 1)) = cleanR D false l) := Lib.hid (by rw [← hR]; simp [cleanR, e])
        rw [e] at HRM
        have HRM := Lib.hid HRM
        clear e hR
        go_wp2_with fail
        refine HRM.out.mono ?_
        rintro e w1 ⟨rfl, h1⟩
        have H1 := Lib.hid h1
        clear h1 hcell HRM
        cases bb with
        | true =>
          go_wp2
          exact ⟨⟨k + 1, true, _, by omega, by go_num, rfl, H1.out, HF2.out, HR.out⟩, by simp [intOf]; omega⟩
        | false =>
          go_wp2
          exact ⟨⟨k + 1, true, _, by omega, by go_num, rfl, H1.out, HF2.out, HR.out⟩, by simp [intOf]; omega⟩
      · have HR : Hid (cleanR (removeD D' s) bb (l.drop (k + 1)) = cleanR D false l) := Lib.hid (by rw [← hR]; simp [cleanR, e])
        rw [e] at HRM
        have HRM := Lib.hid HRM
        clear e hR
        go_wp2_with fail
        refine HRM.out.mono ?_
        rintro e w1 ⟨rfl, h1⟩
        have H1 := Lib.hid h1
        clear h1 hcell HRM
        cases bb with
        | true =>
          go_wp2
          exact ⟨⟨k + 1, true, _, by omega, by go_num, rfl, H1.out, HF2.out, HR.out⟩, by simp [intOf]; omega⟩
        | false =>
          go_wp2
          exact ⟨⟨k + 1, false, _, by omega, by go_num, rfl, H1.out, HF2.out, HR.out⟩, by simp [intOf]; omega⟩
      · have HR : Hid ((15, removeD D' s) = cleanR D false l) := Lib.hid (by rw [← hR]; simp [cleanR, e])
        rw [e] at HRM
        have HRM := Lib.hid HRM
        clear e hR
        go_wp2_with fail
        refine HRM.out.mono ?_
        rintro e w1 ⟨rfl, h1⟩
        have H1 := Lib.hid h1
        clear h1 hcell HRM
        go_wp2
        go_ret
        rw [← HR.out]
        exact ⟨rfl, H1.out⟩
    · obtain rfl : k = l.length := by omega
      rw [List.drop_length] at hCF hR
      have HSD := Lib.hid (syncdir_from hD (show Fine D' from hCF))
      have HR := Lib.hid hR
      have HD := Lib.hid hD
      clear hCF hR hD
      cases bb with
      | true =>
        go_wp2_with fail
        refine HSD.out.mono ?_
        rintro e w1 ⟨rfl, h1⟩
        have H1 := Lib.hid h1
        clear h1
        go_wp2
        go_ret
        rw [← HR.out]
        exact ⟨rfl, H1.out⟩
      | false =>
        go_wp2
        go_ret
        rw [← HR.out]
        exact ⟨rfl, HD.out⟩
end Go.Proofs.Ytkbmhghellimcaa
