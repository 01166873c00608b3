/- Plain laws of a Save: what it makes of a disk, by its fuse; bounds. -/
import Derived.Test.YtkbmhghellimcaaClean
import Derived.Test.YtkbmhghellimcaaNames
namespace Go.Proofs.Ytkbmhghellimcaa
open Go.RowKit

/-- Bounds of a disk behind n acts, texts of at most m bytes. -/
structure Bd (n m : Nat) (D : DiskS) : Prop where
  steps : D.steps ≤ n
  names : D.names.length ≤ n
  last : D.last.length ≤ n
  pend : D.pending.length ≤ n
  now : ∀ t ∈ D.now, t.length ≤ m
  sure : ∀ t ∈ D.sure, t.length ≤ m
theorem Bd.fine {n m : Nat} {D : DiskS} (h : Bd n m D) (hn : n ≤ 800) (hm : m < 1000000) (hnm : n * m < 1000000) : Fine D where
  steps := by have := h.steps; omega
  names := by have := h.names; omega
  last := by have := h.last; omega
  pend := by have := h.pend; omega
  used := Nat.lt_of_le_of_lt (used_le h.now) (Nat.lt_of_le_of_lt (Nat.mul_le_mul_right m h.names) hnm)
  now := fun t ht => Nat.lt_of_le_of_lt (h.now t ht) hm
  sure := fun t ht => Nat.lt_of_le_of_lt (h.sure t ht) hm
theorem Bd.mono {n n' m : Nat} {D : DiskS} (h : Bd n m D) (hn : n ≤ n') : Bd n' m D := ⟨Nat.le_trans h.steps hn, Nat.le_trans h.names hn, Nat.le_trans h.last hn, Nat.le_trans h.pend hn, h.now, h.sure⟩
theorem Bd.step {n m : Nat} {D : DiskS} (h : Bd n m D) : Bd (n + 1) m (stepD D) := by
  unfold stepD
  split
  · exact ⟨by have := h.steps; simp only; omega, by have := h.names; simp only; omega, by have := h.last; simp only; omega, by have := h.pend; simp only; omega, h.now, h.sure⟩
  · exact ⟨by have := h.steps; simp only; omega, by have := h.names; simp only; omega, by have := h.last; simp only; omega, by have := h.pend; simp only; omega, h.now, h.sure⟩
theorem mem_append_le {l : List Str} {x : Str} {m : Nat} (h : ∀ t ∈ l, t.length ≤ m) (hx : x.length ≤ m) : ∀ t ∈ l ++ [x], t.length ≤ m := fun t ht => by
  rcases List.mem_append.1 ht with ht | ht
  · exact h t ht
  · obtain rfl : t = x := by simpa using ht
    exact hx
theorem mem_set_le {l : List Str} {x : Str} {m : Nat} (h : ∀ t ∈ l, t.length ≤ m) (hx : x.length ≤ m) (i : Nat) : ∀ t ∈ l.set i x, t.length ≤ m := fun t ht => by
  rcases List.mem_or_eq_of_mem_set ht with ht | rfl
  · exact h t ht
  · exact hx
theorem Bd.turned {n m : Nat} {D : DiskS} (t : TurnS) {now sure : List Str} (h1 : D.steps ≤ n) (h2 : D.names.length < n) (h3 : D.last.length ≤ n) (h4 : D.pending.length < n) (h5 : ∀ t ∈ now, t.length ≤ m) (h6 : ∀ t ∈ sure, t.length ≤ m) : Bd n m (turnedD { D with now := now, sure := sure } t) where
  steps := h1
  names := by have := length_doT D.names t; show (doT D.names t).length ≤ n; omega
  last := h3
  pend := by show (D.pending ++ [t]).length ≤ n; simp; omega
  now := h5
  sure := h6
theorem Bd.write {n m : Nat} {D : DiskS} (h : Bd n m D) (s t : Str) (ht : t.length ≤ m) : Bd (n + 1) m (writeD D s t) := by
  have hs := h.step
  unfold writeD
  split
  · exact h.mono (by omega)
  · split
    · exact h.mono (by omega)
    · split
      · split
        · exact h.mono (by omega)
        · split
          · exact h.mono (by omega)
          · split
            · exact hs
            · have := h.names
              have := h.pend
              exact Bd.turned (D := stepD D) _ hs.steps (by rw [stepD_names]; omega) hs.last (by rw [stepD_pending]; omega) (mem_append_le h.now ht) (mem_append_le h.sure (Nat.zero_le _))
      · split
        · exact h.mono (by omega)
        · split
          · exact hs
          · exact ⟨hs.steps, hs.names, hs.last, hs.pend, mem_set_le h.now ht _, hs.sure⟩
theorem Bd.sync {n m : Nat} {D : DiskS} (h : Bd n m D) (s : Str) : Bd (n + 1) m (syncD D s) := by
  have hs := h.step
  unfold syncD
  split
  · split
    · exact hs
    · split
      · exact ⟨hs.steps, hs.names, hs.last, hs.pend, hs.now, mem_set_le h.sure (getD_le h.now _) _⟩
      · exact h.mono (by omega)
  · exact h.mono (by omega)
theorem Bd.turn {n m : Nat} {D : DiskS} (h : Bd n m D) (t : TurnS) : Bd (n + 1) m (turnedD (stepD D) t) := by
  have hs := h.step
  have := h.names
  have := h.pend
  exact Bd.turned (D := stepD D) t hs.steps (by rw [stepD_names]; omega) hs.last (by rw [stepD_pending]; omega) hs.now hs.sure
theorem Bd.rename {n m : Nat} {D : DiskS} (h : Bd n m D) (s t : Str) : Bd (n + 1) m (renameD D s t) := by
  unfold renameD
  split
  · split
    · exact h.mono (by omega)
    · split
      · exact h.mono (by omega)
      · split
        · exact h.step
        · exact h.turn _
  · exact h.mono (by omega)
theorem Bd.remove {n m : Nat} {D : DiskS} (h : Bd n m D) (s : Str) : Bd (n + 1) m (removeD D s) := by
  unfold removeD
  split
  · split
    · exact h.step
    · exact h.turn _
  · exact h.mono (by omega)
theorem Bd.syncdir {n m : Nat} {D : DiskS} (h : Bd n m D) : Bd (n + 1) m (syncDirD D) := by
  have hs := h.step
  unfold syncDirD
  split
  · exact h.mono (by omega)
  · split
    · exact hs
    · exact ⟨hs.steps, hs.names, by have := h.names; simp only; omega, by simp, hs.now, hs.sure⟩
theorem Bd.fuse {n m : Nat} {D : DiskS} (h : Bd n m D) (f : Int) : Bd n m (fuseD D f) := ⟨h.steps, h.names, h.last, h.pend, h.now, h.sure⟩
theorem Bd.saveFine {n m : Nat} {D : DiskS} (h : Bd n m D) (name by_ text : Str) (hx : text.length + 28 ≤ m) (hn : n + 3 ≤ 800) (hm : m < 1000000) (hnm : (n + 3) * m < 1000000) : SaveFine D name by_ text := by
  have hx' : (sealL text).length ≤ m := Nat.le_trans (length_seal text) hx
  have h1 := h.write by_ (sealL text) hx'
  have h2 := h1.sync by_
  have h3 := h2.rename by_ name
  have k : ∀ j, j ≤ n + 3 → j * m < 1000000 := fun j hj => Nat.lt_of_le_of_lt (Nat.mul_le_mul_right m hj) hnm
  exact ⟨h.fine (by omega) hm (k _ (by omega)), h1.fine (by omega) hm (k _ (by omega)), h2.fine (by omega) hm (k _ (by omega)), h3.fine (by omega) hm (k _ (by omega))⟩
theorem Bd.save {n m : Nat} {D : DiskS} (h : Bd n m D) (name by_ text : Str) (hx : text.length + 28 ≤ m) : Bd (n + 4) m (saveD D name by_ text) := by
  have hx' : (sealL text).length ≤ m := Nat.le_trans (length_seal text) hx
  have h1 := h.write by_ (sealL text) hx'
  have h2 := h1.sync by_
  have h3 := h2.rename by_ name
  have h4 := h3.syncdir
  unfold saveD
  repeat' split
  · exact h.mono (by omega)
  · exact h.mono (by omega)
  · exact h1.mono (by omega)
  · exact h2.mono (by omega)
  · exact h3.mono (by omega)
  · exact h4

/-! what a Save makes, by its fuse -/
def dec (f : Int) : Int := if 0 < f then f - 1 else f
def S1 (D : DiskS) (by_ x : Str) : DiskS := { D with now := D.now ++ [x], sure := D.sure ++ [[]], names := putN by_ D.now.length D.names, pending := D.pending ++ [⟨1, [], by_, D.now.length⟩], steps := D.steps + 1, fuse := dec D.fuse }
def S2 (D : DiskS) (by_ x : Str) : DiskS := { S1 D by_ x with sure := D.sure ++ [x], steps := D.steps + 1 + 1, fuse := dec (dec D.fuse) }
def S3 (D : DiskS) (name by_ x : Str) : DiskS := { S2 D by_ x with names := putN name D.now.length (delN by_ (putN by_ D.now.length D.names)), pending := D.pending ++ [⟨1, [], by_, D.now.length⟩] ++ [⟨2, by_, name, 0⟩], steps := D.steps + 1 + 1 + 1, fuse := dec (dec (dec D.fuse)) }
def S4 (D : DiskS) (name by_ x : Str) : DiskS := { S3 D name by_ x with last := putN name D.now.length (delN by_ (putN by_ D.now.length D.names)), pending := [], steps := D.steps + 1 + 1 + 1 + 1, fuse := dec (dec (dec (dec D.fuse))) }
/-- A Save that may go on till the power goes. -/
structure Goes (D : DiskS) (name by_ text : Str) : Prop where
  up : D.down = false
  len : D.sure.length = D.now.length
  okN : nameB name = true
  okB : nameB by_ = true
  ne : name ≠ by_
  okT : text.length ≤ 16384
  new : findN by_ D.names = none
  few : D.names.length < 16
  room : usedD D + (sealL text).length ≤ D.room
theorem stepD_go {D : DiskS} (h : D.fuse ≠ 0) : stepD D = { D with fuse := dec D.fuse, steps := D.steps + 1 } := by
  unfold stepD dec
  rw [if_neg h]
theorem stepD_no {D : DiskS} (h : D.fuse = 0) : stepD D = { D with down := true } := by
  unfold stepD
  rw [if_pos h]
section
variable {D : DiskS} {name by_ text : Str}
theorem Goes.w0 (h : Goes D name by_ text) (hf : D.fuse = 0) : writeE D by_ (sealL text) = 15 ∧ sv1 D by_ text = { D with down := true } := by
  have h1 : ¬ 16 ≤ D.names.length := by have := h.few; omega
  have h2 : ¬ D.room < usedD D + (sealL text).length := by have := h.room; omega
  refine ⟨?_, ?_⟩
  · simp only [writeE, h.up, h.okB, h.new, h1, h2, Bool.false_eq_true, Bool.true_eq_false, if_false, stepE, hf, if_true]
  · simp only [sv1, writeD, h.up, h.okB, h.new, h1, h2, Bool.false_eq_true, Bool.true_eq_false, if_false, hf, if_true, stepD_no hf]
theorem Goes.w1 (h : Goes D name by_ text) (hf : D.fuse ≠ 0) : writeE D by_ (sealL text) = 0 ∧ sv1 D by_ text = S1 D by_ (sealL text) := by
  have h1 : ¬ 16 ≤ D.names.length := by have := h.few; omega
  have h2 : ¬ D.room < usedD D + (sealL text).length := by have := h.room; omega
  refine ⟨?_, ?_⟩
  · simp only [writeE, h.up, h.okB, h.new, h1, h2, Bool.false_eq_true, Bool.true_eq_false, if_false, stepE, hf]
  · simp only [sv1, writeD, h.up, h.okB, h.new, h1, h2, Bool.false_eq_true, Bool.true_eq_false, if_false, hf, stepD_go hf, turnedD, S1, doT, if_true]
theorem there_S1 (h : Goes D name by_ text) (x : Str) : thereE (S1 D by_ x) by_ = 0 := by
  simp [thereE, S1, h.up, findN_putN]
theorem there_S2 (h : Goes D name by_ text) (x : Str) : thereE (S2 D by_ x) by_ = 0 := by
  simp [thereE, S2, S1, h.up, findN_putN]
theorem Goes.s0 (h : Goes D name by_ text) (x : Str) (hf : dec D.fuse = 0) : syncE (S1 D by_ x) by_ = 15 ∧ syncD (S1 D by_ x) by_ = { S1 D by_ x with down := true } := by
  have e : (S1 D by_ x).fuse = 0 := hf
  refine ⟨?_, ?_⟩
  · simp only [syncE, there_S1 h x, if_true, stepE, e]
  · simp only [syncD, there_S1 h x, if_true, e, stepD_no e]
theorem Goes.s1 (h : Goes D name by_ text) (x : Str) (hf : dec D.fuse ≠ 0) : syncE (S1 D by_ x) by_ = 0 ∧ syncD (S1 D by_ x) by_ = S2 D by_ x := by
  have e : (S1 D by_ x).fuse ≠ 0 := hf
  have hfi : findN by_ (S1 D by_ x).names = some D.now.length := by simp [S1, findN_putN]
  have hget : (S1 D by_ x).now.getD D.now.length [] = x := by simp [S1]
  have hset : (S1 D by_ x).sure.set D.now.length x = D.sure ++ [x] := by
    show (D.sure ++ [[]]).set D.now.length x = _
    rw [← h.len, List.set_append_right _ _ (Nat.le_refl _)]
    simp
  refine ⟨?_, ?_⟩
  · simp only [syncE, there_S1 h x, if_true, stepE, e, if_false]
  · simp only [syncD, there_S1 h x, if_true, e, if_false, hfi, hget, hset, stepD_go e]
    rfl
theorem Goes.r0 (h : Goes D name by_ text) (x : Str) (hf : dec (dec D.fuse) = 0) : renameE (S2 D by_ x) by_ name = 15 ∧ renameD (S2 D by_ x) by_ name = { S2 D by_ x with down := true } := by
  have e : (S2 D by_ x).fuse = 0 := hf
  have hne : ¬ by_ = name := fun e => h.ne e.symm
  refine ⟨?_, ?_⟩
  · simp only [renameE, there_S2 h x, if_true, h.okN, Bool.true_eq_false, if_false, hne, stepE, e]
  · simp only [renameD, there_S2 h x, if_true, h.okN, Bool.true_eq_false, if_false, hne, e, stepD_no e]
theorem Goes.r1 (h : Goes D name by_ text) (x : Str) (hf : dec (dec D.fuse) ≠ 0) : renameE (S2 D by_ x) by_ name = 0 ∧ renameD (S2 D by_ x) by_ name = S3 D name by_ x := by
  have e : (S2 D by_ x).fuse ≠ 0 := hf
  have hne : ¬ by_ = name := fun e => h.ne e.symm
  have hfi : findN by_ (S2 D by_ x).names = some D.now.length := by simp [S2, S1, findN_putN]
  refine ⟨?_, ?_⟩
  · simp only [renameE, there_S2 h x, if_true, h.okN, Bool.true_eq_false, if_false, hne, stepE, e]
  · simp only [renameD, there_S2 h x, if_true, h.okN, Bool.true_eq_false, if_false, hne, e, stepD_go e, turnedD, doT, Nat.reduceEqDiff, hfi]
    rfl
theorem Goes.d0 (h : Goes D name by_ text) (x : Str) (hf : dec (dec (dec D.fuse)) = 0) : syncDirE (S3 D name by_ x) = 15 ∧ syncDirD (S3 D name by_ x) = { S3 D name by_ x with down := true } := by
  have e : (S3 D name by_ x).fuse = 0 := hf
  have hu : (S3 D name by_ x).down = false := h.up
  exact ⟨by simp only [syncDirE, hu, Bool.false_eq_true, if_false, stepE, e, if_true], by simp only [syncDirD, hu, Bool.false_eq_true, if_false, e, if_true, stepD_no e]⟩
theorem Goes.d1 (h : Goes D name by_ text) (x : Str) (hf : dec (dec (dec D.fuse)) ≠ 0) : syncDirE (S3 D name by_ x) = 0 ∧ syncDirD (S3 D name by_ x) = S4 D name by_ x := by
  have e : (S3 D name by_ x).fuse ≠ 0 := hf
  have hu : (S3 D name by_ x).down = false := h.up
  have hv : syncDirD (S3 D name by_ x) = { stepD (S3 D name by_ x) with last := (S3 D name by_ x).names, pending := [] } := by
    unfold syncDirD
    rw [if_neg (by rw [hu]; decide), if_neg e]
  refine ⟨by simp only [syncDirE, hu, Bool.false_eq_true, if_false, stepE, e], ?_⟩
  rw [hv, stepD_go e]
  rfl
/-- How a Save ends. -/
theorem Goes.cases (h : Goes D name by_ text) :
    (D.fuse = 0 ∧ saveE D name by_ text = 15 ∧ saveD D name by_ text = { D with down := true }) ∨
    (D.fuse ≠ 0 ∧ dec D.fuse = 0 ∧ saveE D name by_ text = 15 ∧ saveD D name by_ text = { S1 D by_ (sealL text) with down := true }) ∨
    (D.fuse ≠ 0 ∧ dec D.fuse ≠ 0 ∧ dec (dec D.fuse) = 0 ∧ saveE D name by_ text = 15 ∧ saveD D name by_ text = { S2 D by_ (sealL text) with down := true }) ∨
    (D.fuse ≠ 0 ∧ dec D.fuse ≠ 0 ∧ dec (dec D.fuse) ≠ 0 ∧ dec (dec (dec D.fuse)) = 0 ∧ saveE D name by_ text = 15 ∧ saveD D name by_ text = { S3 D name by_ (sealL text) with down := true }) ∨
    (D.fuse ≠ 0 ∧ dec D.fuse ≠ 0 ∧ dec (dec D.fuse) ≠ 0 ∧ dec (dec (dec D.fuse)) ≠ 0 ∧ saveE D name by_ text = 0 ∧ saveD D name by_ text = S4 D name by_ (sealL text)) := by
  have ht : ¬ 16384 < text.length := by have := h.okT; omega
  have hne := h.ne
  by_cases f0 : D.fuse = 0
  · obtain ⟨a, b⟩ := h.w0 f0
    refine .inl ⟨f0, ?_, ?_⟩
    · simp [saveE, ht, hne, a]
    · simp only [saveD, ht, hne, a, if_false, ne_eq, Nat.reduceEqDiff, not_false_eq_true, if_true, b]
  obtain ⟨a1, b1⟩ := h.w1 f0
  by_cases f1 : dec D.fuse = 0
  · obtain ⟨a, b⟩ := h.s0 (sealL text) f1
    refine .inr (.inl ⟨f0, f1, ?_, ?_⟩)
    · simp [saveE, ht, hne, a1, b1, a]
    · simp only [saveD, ht, hne, a1, b1, sv2, a, if_false, ne_eq, Nat.reduceEqDiff, not_false_eq_true, not_true_eq_false, if_true, b]
  obtain ⟨a2, b2⟩ := h.s1 (sealL text) f1
  by_cases f2 : dec (dec D.fuse) = 0
  · obtain ⟨a, b⟩ := h.r0 (sealL text) f2
    refine .inr (.inr (.inl ⟨f0, f1, f2, ?_, ?_⟩))
    · simp [saveE, ht, hne, a1, b1, sv2, a2, b2, a]
    · simp only [saveD, ht, hne, a1, b1, sv2, a2, b2, sv3, a, if_false, ne_eq, Nat.reduceEqDiff, not_false_eq_true, not_true_eq_false, if_true, b]
  obtain ⟨a3, b3⟩ := h.r1 (sealL text) f2
  by_cases f3 : dec (dec (dec D.fuse)) = 0
  · obtain ⟨a, b⟩ := h.d0 (sealL text) f3
    refine .inr (.inr (.inr (.inl ⟨f0, f1, f2, f3, ?_, ?_⟩)))
    · simp [saveE, ht, hne, a1, b1, sv2, a2, b2, sv3, a3, b3, a]
    · simp only [saveD, ht, hne, a1, b1, sv2, a2, b2, sv3, a3, b3, sv4, if_false, ne_eq, not_true_eq_false, b]
  obtain ⟨a4, b4⟩ := h.d1 (sealL text) f3
  refine .inr (.inr (.inr (.inr ⟨f0, f1, f2, f3, ?_, ?_⟩)))
  · simp [saveE, ht, hne, a1, b1, sv2, a2, b2, sv3, a3, b3, a4]
  · simp only [saveD, ht, hne, a1, b1, sv2, a2, b2, sv3, a3, b3, sv4, if_false, ne_eq, not_true_eq_false, b4]
end
end Go.Proofs.Ytkbmhghellimcaa
