/- The examples of chapters 1, 6, 13, 14. -/
import Derived.Test.YtkbmhghellimcaaDfrom
import Derived.Test.YtkbmhghellimcaaOpen
namespace Go.Proofs.Ytkbmhghellimcaa
open Go.RowKit
attribute [local go_sem] size_str get_str

/-- The call answers true, and makes memory at most. -/
def Yes (f : FuncId) : Prop := ∀ w : World, Calls Try.prog f #[] w fun e w' => e = .returned (.bool true) ∧ Below w.heap.size w w'

theorem awake01 : Yes 42 := fun w => by
  go_enter Try.func42, Try.ntmps42
  go_wp2_with fail
  refine (short_any 300 _ (by decide)).mono ?_
  rintro e w1 ⟨rfl, hb1⟩
  rw [show shortL 300 = [172, 2] by decide]
  go_wp2_with fail
  refine (put_any 258 2 _ (by decide) (by decide)).mono ?_
  rintro e w2 ⟨rfl, hb2⟩
  rw [show putL 258 2 = [1, 2] by decide]
  go_wp2
  go_ret
  exact ⟨rfl, hb1.trans (hb2.mono hb1.size)⟩
theorem Awake01 : Yes 20 := fun w => by
  go_enter Try.func20, Try.ntmps20
  go_wp2_with (go_at_call 42; refine (awake01 _).mono ?_; rintro e w1 ⟨rfl, hb1⟩)
  go_ret
  exact ⟨rfl, hb1⟩
theorem text_none (w : World) : Calls Try.prog 25 #[.slice none 0 0] w fun e w' => e = .returned (str (shaL [])) ∧ Below w.heap.size w w' :=
  text_of _ [] w (by decide) (fun W _ => (Try.strings_Join_none none 0 ⟨#[]⟩ W).mono fun e w' h => by
    obtain ⟨h1, h2⟩ := h
    exact ⟨h1, by rw [h2]; exact Below.refl _ _⟩)
theorem awake06 : Yes 43 := fun w => by
  have hx : Lib.hasPrefix (shaL [97, 98, 99]) [186, 120, 22, 191] = true := by decide +kernel
  have HX := Lib.hid hx
  clear hx
  go_enter Try.func43, Try.ntmps43
  go_wp2_with fail
  refine (Awake01 _).mono ?_
  rintro e w1 ⟨rfl, hb1⟩
  go_wp2_with fail
  have ht := text_cells w1.heap.size 9 [[97], [98, 99]] 2 (w1.alloc (.cells #[str [97], str [98, 99]] 9)) (Blk.new _ _ _) (Nat.le_refl _) (by decide) (by decide)
  rw [show ([[97], [98, 99]] : List (List UInt8)).flatten = [97, 98, 99] from rfl] at ht
  refine ht.mono ?_
  clear ht
  rintro e w2 ⟨rfl, hb2⟩
  obtain ⟨S, hS⟩ : ∃ S, S = shaL [97, 98, 99] := ⟨_, rfl⟩
  rw [← hS] at HX ⊢
  clear hS
  go_wp2_with fail
  refine (Try.strings_HasPrefix ⟨S.toArray⟩ ⟨#[186, 120, 22, 191]⟩ _).mono ?_
  rintro e w3 ⟨rfl, rfl⟩
  rw [show Lib.hasPrefix (ByteArray.mk S.toArray).data.toList (ByteArray.mk #[186, 120, 22, 191]).data.toList = true from by simpa using HX.out]
  go_wp2_with fail
  refine (text_none _).mono ?_
  rintro e w4 ⟨rfl, hb4⟩
  have hl : (shaL []).length = 32 := length_sha []
  generalize shaL [] = T at hl ⊢
  go_wp2
  go_ret
  refine ⟨by simp [hl], ?_⟩
  have l1 := hb1.size
  have l2 := hb2.size
  simp only [size_alloc'] at l2
  exact ((hb1.alloc (by omega) _).trans (hb2.mono (by simp only [size_alloc']; omega))).trans (hb4.mono (by omega))
theorem Awake06 : Yes 21 := fun w => by
  go_enter Try.func21, Try.ntmps21
  go_wp2_with (go_at_call 43; refine (awake06 _).mono ?_; rintro e w1 ⟨rfl, hb1⟩)
  go_ret
  exact ⟨rfl, hb1⟩

instance (l : List Str) : Decidable (Short l) := by unfold Short; infer_instance
def ex1 : DiskS := writeD (newD 100) [97] [120]
def ex2 : DiskS := syncD ex1 [97]
def ex3 : DiskS := syncDirD ex2
def ex4 : DiskS := writeD ex3 [98] [121]
def ex5 : DiskS := crashD ex4 [] []
theorem fine0 : Fine (newD 100) := ⟨by decide, by decide, by decide, by decide, by decide, by decide, by decide⟩
theorem fine1 : Fine ex1 := ⟨by decide +kernel, by decide +kernel, by decide +kernel, by decide +kernel, by decide +kernel, by decide +kernel, by decide +kernel⟩
theorem fine2 : Fine ex2 := ⟨by decide +kernel, by decide +kernel, by decide +kernel, by decide +kernel, by decide +kernel, by decide +kernel, by decide +kernel⟩
theorem fine3 : Fine ex3 := ⟨by decide +kernel, by decide +kernel, by decide +kernel, by decide +kernel, by decide +kernel, by decide +kernel, by decide +kernel⟩
theorem fine4 : Fine ex4 := ⟨by decide +kernel, by decide +kernel, by decide +kernel, by decide +kernel, by decide +kernel, by decide +kernel, by decide +kernel⟩
theorem fine5 : Fine ex5 := ⟨by decide +kernel, by decide +kernel, by decide +kernel, by decide +kernel, by decide +kernel, by decide +kernel, by decide +kernel⟩
theorem one_le (c : UInt8) : ([c] : Str).length ≤ maxLen := by show 1 ≤ maxLen; decide
theorem Calls.ret_eq {P : Program} {f : FuncId} {args : Array Value} {w : World} {n m : Nat} {R : World → Prop} (h : Calls P f args w fun e w' => e = .returned (.int .i64 (n : Int)) ∧ R w') (e : n = m) : Calls P f args w fun e w' => e = .returned (.int .i64 (m : Int)) ∧ R w' := by rwa [e] at h

set_option maxRecDepth 100000 in
set_option maxHeartbeats 1600000 in
theorem awake13 : Yes 44 := fun w => by
  go_enter Try.func44, Try.ntmps44
  go_wp2_with fail
  refine (new_from w w (· < w.heap.size) 100 (by decide) (Only.refl _ _) (fun b h => h)).mono ?_
  rintro e w1 ⟨p, rfl, h1⟩
  go_wp2_with fail
  refine (Calls.ret_eq (write_from h1 [97] [120] (one_le _) (by decide) fine0) (show _ = 0 by decide +kernel)).mono ?_
  rintro e w2 ⟨rfl, h2⟩
  go_wp2_with fail
  refine (Calls.ret_eq (sync_from (D := ex1) h2 [97] (one_le _) fine1) (show _ = 0 by decide +kernel)).mono ?_
  rintro e w3 ⟨rfl, h3⟩
  go_wp2_with fail
  refine (Calls.ret_eq (syncdir_from (D := ex2) h3 fine2) (show _ = 0 by decide +kernel)).mono ?_
  rintro e w4 ⟨rfl, h4⟩
  go_wp2_with fail
  refine (Calls.ret_eq (write_from (D := ex3) h4 [98] [121] (one_le _) (by decide) fine3) (show _ = 0 by decide +kernel)).mono ?_
  rintro e w5 ⟨rfl, h5⟩
  go_wp2_with fail
  refine (crash_from (D := ex4) h5 none none 0 0 [] [] (.inl rfl) (.inl rfl) (by decide) (by decide) (by simp) (by decide) (by decide) (by simp) (by simp) fine4).mono ?_
  rintro e w6 ⟨rfl, h6⟩
  go_wp2_with fail
  have hr := read_from (D := ex5) h6 [97] (one_le _)
  rw [show readT ex5 [97] = [120] by decide +kernel, show readE ex5 [97] = 0 by decide +kernel] at hr
  refine hr.mono ?_
  clear hr
  rintro e w7 ⟨rfl, rfl⟩
  go_wp2_with fail
  have hn := names_from (D := ex5) h6 fine5
  rw [show namesD ex5 = [[97]] by decide +kernel] at hn
  refine hn.mono ?_
  clear hn
  rintro e w8 ⟨v, rfl, hrow, hb8, h8⟩
  obtain ⟨A8, c8, rfl, hc8, hg8⟩ := row_form hrow
  have H8 := Lib.hid h8
  clear h1 h2 h3 h4 h5 h6 h8 hrow hb8 hc8 hg8
  go_wp2
  go_ret
  exact ⟨rfl, H8.out.toBelow (Nat.le_refl _)⟩
theorem Awake13 : Yes 22 := fun w => by
  go_enter Try.func22, Try.ntmps22
  go_wp2_with (go_at_call 44; refine (awake13 _).mono ?_; rintro e w1 ⟨rfl, hb1⟩)
  go_ret
  exact ⟨rfl, hb1⟩

theorem open_seal_a : openR (sealL [97]) = .tuple #[str [97], .int .i64 0] := by
  have h : openL (sealL [97]) = some [97] := by decide +kernel
  unfold openR
  rw [h]
theorem steps_any (w : World) : Calls Try.prog 23 #[] w fun e w' => e = .returned (.int .i64 4) ∧ w = w' := by
  go_enter Try.func23, Try.ntmps23
  go_wp2
  go_ret
  exact ⟨rfl, rfl⟩
set_option maxRecDepth 100000 in
theorem awake14 : Yes 6 := fun w => by
  go_enter Try.func6, Try.ntmps6
  go_wp2_with fail
  refine (seal_any [97] _ (by decide)).mono ?_
  rintro e w1 ⟨rfl, hb1⟩
  go_wp2_with fail
  have ho := open_any (sealL [97]) w1 (by decide +kernel)
  rw [open_seal_a] at ho
  obtain ⟨S, hS⟩ : ∃ S, S = sealL [97] := ⟨_, rfl⟩
  rw [← hS] at ho ⊢
  refine ho.mono ?_
  clear hS ho
  rintro e w2 ⟨rfl, hb2⟩
  go_wp2_with fail
  refine (Awake01 _).mono ?_
  rintro e w3 ⟨rfl, hb3⟩
  go_wp2_with fail
  refine (Awake06 _).mono ?_
  rintro e w4 ⟨rfl, hb4⟩
  go_wp2_with fail
  refine (Awake13 _).mono ?_
  rintro e w5 ⟨rfl, hb5⟩
  go_wp2_with fail
  refine (steps_any _).mono ?_
  rintro e w6 ⟨rfl, rfl⟩
  go_wp2
  go_ret
  have l1 := hb1.size
  have l2 := hb2.size
  have l3 := hb3.size
  have l4 := hb4.size
  exact ⟨rfl, (((hb1.trans (hb2.mono l1)).trans (hb3.mono (by omega))).trans (hb4.mono (by omega))).trans (hb5.mono (by omega))⟩
end Go.Proofs.Ytkbmhghellimcaa
