/- The walks of file.Save, Load, Clean; of an act's text. -/
import Derived.Test.YtkbmhghellimcaaAwake
namespace Go.Proofs.Ytkbmhghellimcaa
open Go.RowKit
attribute [local go_sem] size_str get_str

def sv1 (D : DiskS) (by_ text : Str) : DiskS := writeD D by_ (sealL text)
def sv2 (D : DiskS) (by_ text : Str) : DiskS := syncD (sv1 D by_ text) by_
def sv3 (D : DiskS) (name by_ text : Str) : DiskS := renameD (sv2 D by_ text) by_ name
def sv4 (D : DiskS) (name by_ text : Str) : DiskS := syncDirD (sv3 D name by_ text)
/-- Save's error; what it makes of a disk. -/
def saveE (D : DiskS) (name by_ text : Str) : Nat :=
  if 16384 < text.length then 5 else if name = by_ then 2
  else if writeE D by_ (sealL text) ≠ 0 then writeE D by_ (sealL text)
  else if syncE (sv1 D by_ text) by_ ≠ 0 then syncE (sv1 D by_ text) by_
  else if renameE (sv2 D by_ text) by_ name ≠ 0 then renameE (sv2 D by_ text) by_ name
  else syncDirE (sv3 D name by_ text)
def saveD (D : DiskS) (name by_ text : Str) : DiskS :=
  if 16384 < text.length then D else if name = by_ then D
  else if writeE D by_ (sealL text) ≠ 0 then sv1 D by_ text
  else if syncE (sv1 D by_ text) by_ ≠ 0 then sv2 D by_ text
  else if renameE (sv2 D by_ text) by_ name ≠ 0 then sv3 D name by_ text
  else sv4 D name by_ text
structure SaveFine (D : DiskS) (name by_ text : Str) : Prop where
  f0 : Fine D
  f1 : Fine (sv1 D by_ text)
  f2 : Fine (sv2 D by_ text)
  f3 : Fine (sv3 D name by_ text)

theorem length_seal (t : Str) : (sealL t).length ≤ t.length + 28 := by
  unfold sealL headL
  have h1 : (shortL t.length).length ≤ 10 := length_shortF 10 _
  have h2 := length_sha ([79, 84] ++ shortL t.length ++ t)
  simp [h2]
  omega
theorem neq_int (e : Nat) (h : e ≠ 0) : ((e : Int) != 0) = true := by rw [bne_iff_ne]; omega
theorem eq_int (e : Nat) (h : e = 0) : ((e : Int) != 0) = false := by rw [bne_eq_false_iff_eq]; omega

/-- What a goto of Save bears. -/
def SFin (K : Nat → Prop) (w0 : World) (p : Nat) (E : Nat) (D' : DiskS) (e : Int) (w' : World) : Prop := e = (E : Int) ∧ DFrom K w0 w' p D'
set_option maxRecDepth 100000 in
set_option maxHeartbeats 1600000 in
theorem save_from {K : Nat → Prop} {p : Nat} {w0 w : World} {D : DiskS} (h : DFrom K w0 w p D) (name by_ text : Str) (hn : name.length ≤ maxLen) (hby : by_.length ≤ maxLen) (ht : text.length < 100000) (hF : SaveFine D name by_ text) :
    Calls Try.prog 12 #[.pointer (some ⟨p, 0, none⟩), str name, str by_, str text] w fun e w' => e = .returned (.int .i64 (saveE D name by_ text)) ∧ DFrom K w0 w' p (saveD D name by_ text) := by
  have h := Lib.hid h
  have HF := Lib.hid hF
  have E : Hid (saveE D name by_ text = if 16384 < text.length then 5 else if name = by_ then 2
    else if writeE D by_ (sealL text) ≠ 0 then writeE D by_ (sealL text)
    else if syncE (sv1 D by_ text) by_ ≠ 0 then syncE (sv1 D by_ text) by_
    else if renameE (sv2 D by_ text) by_ name ≠ 0 then renameE (sv2 D by_ text) by_ name
    else syncDirE (sv3 D name by_ text)) := Lib.hid rfl
  have V : Hid (saveD D name by_ text = if 16384 < text.length then D else if name = by_ then D
    else if writeE D by_ (sealL text) ≠ 0 then sv1 D by_ text
    else if syncE (sv1 D by_ text) by_ ≠ 0 then sv2 D by_ text
    else if renameE (sv2 D by_ text) by_ name ≠ 0 then sv3 D name by_ text
    else sv4 D name by_ text) := Lib.hid rfl
  have hlt : text.length < 100000 := ht
  clear ht hF
  go_enter Try.func12, Try.ntmps12
  go_wp2_with fail
  refine wp_scope_on 0 (fun a' w' => a'.tmps.size = 37 ∧ a'.defers = [] ∧ ∃ e : Int, a'.tmps.getD 9 undef = .int .i64 e ∧ SFin K w0 p (saveE D name by_ text) (saveD D name by_ text) e w') rfl ?_ ?_
  · rintro a' w' ⟨h1, h2, e, h9, hfin⟩
    have HFn := Lib.hid hfin
    clear hfin
    refine frame_of 37 h1 h2 9 _ h9 (fun f h9 => ?_)
    change Code.wp _ _ _ { tmps := #[f 0, f 1, f 2, f 3, f 4, f 5, f 6, f 7, f 8, f 9, f 10, f 11, f 12, f 13, f 14, f 15, f 16, f 17, f 18, f 19, f 20, f 21, f 22, f 23, f 24, f 25, f 26, f 27, f 28, f 29, f 30, f 31, f 32, f 33, f 34, f 35, f 36], defers := [] } _
    rw [h9]
    clear h9 h1 h2
    go_wp2
    simp only [Exit.jump]
    go_ret
    exact ⟨ret_i64 HFn.out.1, HFn.out.2⟩
  · by_cases h16 : 16384 < text.length
    · simp only [h16, if_true] at E V
      go_wp2
      apply wp_goto; refine ⟨rfl, rfl, rfl, _, rfl, ?_, ?_⟩
      · rw [E.out]; rfl
      · rw [V.out]; exact h.out
    · simp only [h16, if_false] at E V
      by_cases he : name = by_
      · simp only [he, if_true] at E V
        have hq : (name == by_) = true := by rw [beq_iff_eq]; exact he
        have He := Lib.hid he
        clear he
        go_wp2
        apply wp_goto; refine ⟨rfl, rfl, rfl, _, rfl, ?_, ?_⟩
        · rw [He.out, E.out]; rfl
        · rw [He.out, V.out]; exact h.out
      · simp only [he, if_false] at E V
        have hq : (name == by_) = false := by rw [beq_eq_false_iff_ne]; exact he
        clear he
        go_wp2_with (go_at_call 7; refine (seal_any text _ hlt).mono ?_; rintro e w1 ⟨rfl, hb1⟩; have H1 := Lib.hid (h.out.below hb1); clear hb1)
        refine (write_from H1.out by_ (sealL text) hby (by have := length_seal text; omega) HF.out.f0).mono ?_
        rintro e w2 ⟨rfl, h2⟩
        have H2 := Lib.hid h2
        clear h2
        obtain ⟨e1, he1⟩ : ∃ e1, e1 = writeE D by_ (sealL text) := ⟨_, rfl⟩
        rw [← he1] at E V ⊢
        clear he1
        by_cases z1 : e1 = 0
        · subst z1
          simp only [ne_eq, not_true_eq_false, if_false] at E V
          go_wp2_with fail
          refine (sync_from (D := sv1 D by_ text) H2.out by_ hby HF.out.f1).mono ?_
          rintro e w3 ⟨rfl, h3⟩
          have H3 := Lib.hid h3
          clear h3
          obtain ⟨e2, he2⟩ : ∃ e2, e2 = syncE (sv1 D by_ text) by_ := ⟨_, rfl⟩
          rw [← he2] at E V ⊢
          clear he2
          by_cases z2 : e2 = 0
          · subst z2
            simp only [ne_eq, not_true_eq_false, if_false] at E V
            go_wp2_with fail
            refine (rename_from (D := sv2 D by_ text) H3.out by_ name hby hn HF.out.f2).mono ?_
            rintro e w4 ⟨rfl, h4⟩
            have H4 := Lib.hid h4
            clear h4
            obtain ⟨e3, he3⟩ : ∃ e3, e3 = renameE (sv2 D by_ text) by_ name := ⟨_, rfl⟩
            rw [← he3] at E V ⊢
            clear he3
            by_cases z3 : e3 = 0
            · subst z3
              simp only [ne_eq, not_true_eq_false, if_false] at E V
              go_wp2_with fail
              refine (syncdir_from (D := sv3 D name by_ text) H4.out HF.out.f3).mono ?_
              rintro e w5 ⟨rfl, h5⟩
              have H5 := Lib.hid h5
              clear h5
              obtain ⟨e4, he4⟩ : ∃ e4, e4 = syncDirE (sv3 D name by_ text) := ⟨_, rfl⟩
              rw [← he4] at E ⊢
              clear he4
              go_wp2
              apply wp_label
              rename_i hK
              refine hK _ _ ?_
              go_wp2
              simp only [Exit.jump]
              go_ret
              refine ⟨by rw [E.out]; rfl, ?_⟩
              rw [V.out]; exact H5.out
            · have nz := neq_int e3 z3
              simp only [z3, ne_eq, not_false_eq_true, if_true] at E V
              clear z3
              go_wp2
              apply wp_goto; refine ⟨rfl, rfl, rfl, _, rfl, ?_, ?_⟩
              · rw [E.out]
              · rw [V.out]; exact H4.out
          · have nz := neq_int e2 z2
            simp only [z2, ne_eq, not_false_eq_true, if_true] at E V
            clear z2
            go_wp2
            apply wp_goto; refine ⟨rfl, rfl, rfl, _, rfl, ?_, ?_⟩
            · rw [E.out]
            · rw [V.out]; exact H3.out
        · have nz := neq_int e1 z1
          simp only [z1, ne_eq, not_false_eq_true, if_true] at E V
          clear z1
          go_wp2
          apply wp_goto; refine ⟨rfl, rfl, rfl, _, rfl, ?_, ?_⟩
          · rw [E.out]
          · rw [V.out]; exact H2.out

/-- Load's answer. -/
def loadR (D : DiskS) (name : Str) : Value := if readE D name = 0 then openR (readT D name) else .tuple #[.string { data := #[] }, .int .i64 (readE D name)]
theorem openR_form (s : Str) : ∃ t e, openR s = .tuple #[str t, .int .i64 e] := by
  unfold openR
  cases openL s with
  | none => exact ⟨[], 23, rfl⟩
  | some t => exact ⟨t, 0, rfl⟩
theorem load_from {K : Nat → Prop} {p : Nat} {w0 w : World} {D : DiskS} (h : DFrom K w0 w p D) (name : Str) (hn : name.length ≤ maxLen) (hl : (readT D name).length < 50000) :
    Calls Try.prog 14 #[.pointer (some ⟨p, 0, none⟩), str name] w fun e w' => e = .returned (loadR D name) ∧ Below w.heap.size w w' ∧ DFrom K w0 w' p D := by
  have h := Lib.hid h
  have R : Hid (loadR D name = if readE D name = 0 then openR (readT D name) else .tuple #[.string { data := #[] }, .int .i64 (readE D name)]) := Lib.hid rfl
  have HR := Lib.hid (read_from h.out name hn)
  have HO := fun W => open_any (readT D name) W hl
  obtain ⟨rt, hrt⟩ : ∃ x, x = readT D name := ⟨_, rfl⟩
  obtain ⟨re, hre⟩ : ∃ x, x = readE D name := ⟨_, rfl⟩
  rw [← hrt, ← hre] at HR R
  rw [← hrt] at HO
  obtain ⟨t, e, hf⟩ := openR_form rt
  rw [hf] at R HO
  have HO := Lib.hid HO
  clear hrt hre hl hf
  by_cases z : re = 0
  · subst z
    simp only [if_true] at R
    go_enter Try.func14, Try.ntmps14
    go_wp2_with (first | (go_at_call 34; refine HR.out.mono ?_; rintro e w' ⟨rfl, rfl⟩) | (go_at_call 8; refine (HO.out _).mono ?_; rintro e w1 ⟨rfl, hb1⟩))
    go_ret2
    exact ⟨by rw [R.out]; rfl, hb1, h.out.below hb1⟩
  · have nz := neq_int re z
    simp only [z, if_false] at R
    clear z
    go_enter Try.func14, Try.ntmps14
    go_wp2_with (go_at_call 34; refine HR.out.mono ?_; rintro e w' ⟨rfl, rfl⟩)
    go_ret2
    exact ⟨by rw [R.out]; rfl, Below.refl _ _, h.out⟩
end Go.Proofs.Ytkbmhghellimcaa
