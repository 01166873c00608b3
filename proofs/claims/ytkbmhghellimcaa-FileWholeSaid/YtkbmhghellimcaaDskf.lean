/- Changes of a disk in memory: a new file; a file's bytes; the names' last state. -/
import Derived.Test.YtkbmhghellimcaaDske
namespace Go.Proofs.Ytkbmhghellimcaa
open Go.RowKit
open Go.Maps (Keyed)
attribute [local go_sem] size_str get_str

theorem getD_append_lt {l r : List Nat} {i : Nat} (h : i < l.length) : (l ++ r).getD i 0 = l.getD i 0 := by
  rw [List.getD_eq_getElem?_getD, List.getD_eq_getElem?_getD, List.getElem?_append_left h]
theorem nodeV_append {l r : List Nat} {i : Nat} (h : i < l.length) : nodeV (l ++ r) i = nodeV l i := by
  unfold nodeV
  rw [getD_append_lt h]
theorem nodeV_last (l : List Nat) (b : Nat) : nodeV (l ++ [b]) l.length = .pointer (some ⟨b, 0, none⟩) := by
  unfold nodeV
  rw [List.getD_eq_getElem?_getD, List.getElem?_append_right (Nat.le_refl _)]
  simp

theorem flatMap_same {α β : Type} {f g : α → List β} : ∀ {l : List α}, (∀ x ∈ l, f x = g x) → l.flatMap f = l.flatMap g
  | [], _ => rfl
  | x :: r, h => by rw [List.flatMap_cons, List.flatMap_cons, h x (by simp), flatMap_same (fun y hy => h y (by simp [hy]))]
/-- A new file, of no bytes. -/
theorem DiskAt.addNode {w : World} {L : Lay} {D : DiskS} (h : DiskAt w L D) : DiskAt (w.alloc (.cells #[str [], str []] 79)) { L with bs := L.bs ++ [w.heap.size] } { D with now := D.now ++ [[]], sure := D.sure ++ [[]] } where
  blk := h.blk.alloc _
  names := by
    have e : mapD (nodeV (L.bs ++ [w.heap.size])) D.names = mapD (nodeV L.bs) D.names := mapD_congr (fun p hp => nodeV_append (by rw [h.nlen]; exact h.ok.names p hp))
    show World.ownsMap _ _ _ raw L.mn _ (mapD (nodeV (L.bs ++ [w.heap.size])) D.names)
    rw [e]
    exact h.names.alloc _
  last := by
    have e : mapD (nodeV (L.bs ++ [w.heap.size])) D.last = mapD (nodeV L.bs) D.last := mapD_congr (fun p hp => nodeV_append (by rw [h.nlen]; exact h.ok.last p hp))
    show World.ownsMap _ _ _ raw L.ms _ (mapD (nodeV (L.bs ++ [w.heap.size])) D.last)
    rw [e]
    exact h.last.alloc _
  ne := h.ne
  nodes i hi := by
    simp only [List.length_append, List.length_singleton] at hi
    by_cases hl : i < L.bs.length
    · have h1 := (h.nodes i hl).alloc (.cells #[str [], str []] 79)
      show Blk _ ((L.bs ++ [w.heap.size]).getD i 0) _ #[str ((D.now ++ [[]]).getD i []), str ((D.sure ++ [[]]).getD i [])]
      rw [getD_append_lt hl, List.getD_eq_getElem?_getD (l := D.now ++ [[]]), List.getElem?_append_left (by rw [← h.nlen]; exact hl), List.getD_eq_getElem?_getD (l := D.sure ++ [[]]), List.getElem?_append_left (by rw [h.ok.len, ← h.nlen]; exact hl),
        ← List.getD_eq_getElem?_getD, ← List.getD_eq_getElem?_getD]
      exact h1
    · obtain rfl : i = L.bs.length := by omega
      show Blk _ ((L.bs ++ [w.heap.size]).getD L.bs.length 0) _ #[str ((D.now ++ [[]]).getD L.bs.length []), str ((D.sure ++ [[]]).getD L.bs.length [])]
      rw [List.getD_eq_getElem?_getD, List.getElem?_append_right (Nat.le_refl _), List.getD_eq_getElem?_getD, List.getElem?_append_right (by rw [h.nlen]; exact Nat.le_refl _), List.getD_eq_getElem?_getD, List.getElem?_append_right (by rw [h.ok.len, h.nlen]; exact Nat.le_refl _), h.nlen, h.ok.len]
      simp only [Nat.sub_self, List.getElem?_cons_zero, Option.getD_some]
      exact Blk.new _ _ _
  nlen := by simp [h.nlen]
  nodup := by
    rw [List.nodup_append]
    refine ⟨h.nodup, by simp, fun a ha b hb e => ?_⟩
    have := h.foot_lt a (.inr (.inr (.inr (.inl ha))))
    simp at hb
    omega
  pend := by
    have e : D.pending.flatMap (turnV (L.bs ++ [w.heap.size])) = D.pending.flatMap (turnV L.bs) := by
      refine flatMap_same (fun t ht => ?_)
      unfold turnV
      by_cases hk : t.kind = 1
      · rw [if_pos hk, if_pos hk, nodeV_append (by rw [h.nlen]; exact h.ok.pend t ht hk)]
      · rw [if_neg hk, if_neg hk]
    show World.ownsRow _ 0 _ 4 L.pv D.pending.length (D.pending.flatMap (turnV (L.bs ++ [w.heap.size])))
    rw [e]
    exact h.pend.alloc _
  ok := ⟨by simp [h.ok.len], fun p hp => by have := h.ok.names p hp; simp; omega, fun p hp => by have := h.ok.last p hp; simp; omega, fun t ht hk => by have := h.ok.pend t ht hk; simp; omega, h.ok.kinds, h.ok.plen⟩
  fuse := h.fuse
  steps := h.steps
  room := h.room
  npend := h.npend

theorem getD_set_str (l : List Str) (i j : Nat) (x : Str) : (l.set i x).getD j [] = if i = j ∧ j < l.length then x else l.getD j [] := by
  simp only [List.getD_eq_getElem?_getD, List.getElem?_set]
  by_cases h : i = j
  · subst h
    by_cases hl : i < l.length
    · simp [hl]
    · simp [hl]
  · simp [h]
/-- A file's bytes. -/
theorem DiskAt.setNode {w : World} {L : Lay} {D : DiskS} (h : DiskAt w L D) {i : Nat} (hi : i < L.bs.length) (a b : Str) {w' : World} (hb : Blk w' (L.bs.getD i 0) 79 #[str a, str b]) (ho : Only (· = L.bs.getD i 0) w w') :
    DiskAt w' L { D with now := D.now.set i a, sure := D.sure.set i b } ∧ Only L.foot w w' := by
  obtain ⟨n1, n2, n3, n4⟩ := h.node_ne hi
  refine ⟨?_, ho.mono (fun k _ e => .inr (.inr (.inr (.inl (by rw [e]; exact h.bs_mem hi)))))⟩
  exact {
    blk := h.blk.only ho (Ne.symm n1)
    names := map_only h.names ho (Ne.symm n2)
    last := map_only h.last ho (Ne.symm n3)
    ne := h.ne
    nodes := fun j hj => by
      show Blk _ _ _ #[str ((D.now.set i a).getD j []), str ((D.sure.set i b).getD j [])]
      rw [getD_set_str, getD_set_str]
      by_cases e : i = j
      · subst e
        rw [if_pos ⟨rfl, by rw [← h.nlen]; exact hi⟩, if_pos ⟨rfl, by rw [h.ok.len, ← h.nlen]; exact hi⟩]
        exact hb
      · rw [if_neg (fun x => e x.1), if_neg (fun x => e x.1)]
        exact (h.nodes j hj).only ho (fun e2 => e (node_inj h hj hi e2).symm)
    nlen := by simp [h.nlen]
    nodup := h.nodup
    pend := own_only h.pend ho (fun k hk e => n4 (by rw [hk, e]))
    ok := ⟨by simp [h.ok.len], fun p hp => by simpa using h.ok.names p hp, fun p hp => by simpa using h.ok.last p hp, fun t ht hk => by simpa using h.ok.pend t ht hk, h.ok.kinds, h.ok.plen⟩
    fuse := h.fuse
    steps := h.steps
    room := h.room
    npend := h.npend }
theorem set_getD_same (l : List Str) (i : Nat) : l.set i (l.getD i []) = l := by
  by_cases h : i < l.length
  · rw [List.getD_eq_getElem?_getD, List.getElem?_eq_getElem h]
    simp
  · rw [List.set_eq_of_length_le (by omega)]
theorem DiskAt.setNow {w : World} {L : Lay} {D : DiskS} (h : DiskAt w L D) {i : Nat} (hi : i < L.bs.length) (a : Str) :
    DiskAt (w.setCell ⟨L.bs.getD i 0, 0, none⟩ (str a)) L { D with now := D.now.set i a } ∧ Only L.foot w (w.setCell ⟨L.bs.getD i 0, 0, none⟩ (str a)) := by
  have := h.setNode hi a (D.sure.getD i []) ((h.nodes i hi).set 0 (str a)) ((Only.refl (· = L.bs.getD i 0) w).setCell (p := ⟨L.bs.getD i 0, 0, none⟩) (.inl rfl) (str a))
  rw [set_getD_same] at this
  exact this
theorem DiskAt.setSure {w : World} {L : Lay} {D : DiskS} (h : DiskAt w L D) {i : Nat} (hi : i < L.bs.length) (a : Str) :
    DiskAt (w.setCell ⟨L.bs.getD i 0, 1, none⟩ (str a)) L { D with sure := D.sure.set i a } ∧ Only L.foot w (w.setCell ⟨L.bs.getD i 0, 1, none⟩ (str a)) := by
  have := h.setNode hi (D.now.getD i []) a ((h.nodes i hi).set 1 (str a)) ((Only.refl (· = L.bs.getD i 0) w).setCell (p := ⟨L.bs.getD i 0, 1, none⟩) (.inl rfl) (str a))
  rw [set_getD_same] at this
  exact this
end Go.Proofs.Ytkbmhghellimcaa
