/- strings.Clone, maps.Clone; the walk of (*Disk).Names. -/
import Derived.Test.YtkbmhghellimcaaDski
import Derived.Test.YtkbmhghellimcaaShelf
import Derived.Test.YtkbmhghellimcaaIter
namespace Go.Proofs.Ytkbmhghellimcaa
open Go.RowKit
open Go.Maps (Keyed)
attribute [local go_sem] size_str get_str

theorem strclone_any (t : Str) (w : World) (ht : t.length < 1000000) :
    Calls Try.prog 54 #[str t] w fun e w' => e = .returned (str t) ∧ Below w.heap.size w w' := by
  have hc := fun W => Try.stringslite_Clone ⟨t.toArray⟩ W (by rw [size_str]; omega)
  have HC := Lib.hid hc
  clear hc
  go_enter Try.func54, Try.ntmps54
  go_wp2_with (go_at_call 68; refine (HC.out _).mono ?_; rintro e w1 ⟨rfl, hb⟩)
  go_ret
  exact ⟨rfl, hb⟩
theorem clone_ok : CloneOk := fun b n D w h => Try.maps_Clone_40 _ _ b n D w h

theorem lt_of_before : ∀ (a b : List UInt8), bytesBefore a b = true → a < b
  | [], [], h => by simp [bytesBefore] at h
  | [], _ :: _, _ => by simp
  | _ :: _, [], h => by simp [bytesBefore] at h
  | x :: r, y :: s, h => by
    simp only [bytesBefore, Bool.or_eq_true, decide_eq_true_eq, Bool.and_eq_true, beq_iff_eq] at h
    rw [List.cons_lt_cons_iff]
    rcases h with h | ⟨h1, h2⟩
    · exact .inl h
    · exact .inr ⟨h1, lt_of_before r s h2⟩
theorem names_rising {w : World} {b n : Nat} {f : Nat → Value} {l : Names} (h : w.ownsMap Try.prog 9 raw b n (mapD f l)) : l.Pairwise (fun p q => bytesBefore p.1 q.1 = true) := by
  obtain ⟨es, clock, _, F, _, hD⟩ := h
  have hs := Maps.sorted_sorted keyed.one _ (Maps.fit_keys F) (Maps.fit_apart keyed F)
  have e : l.map (fun p => (Lit.string p.1, DataW.held (f p.2))) = (es.toList.map (WideElems.rg Try.prog 9 raw)).foldr DataW.insert [] := by injection hD
  rw [← e, List.pairwise_map] at hs
  exact hs.imp (fun h => h)
theorem sorted_names {l : Names} (h : l.Pairwise (fun p q => bytesBefore p.1 q.1 = true)) {ss : List Str} (hp : ss.Perm (l.map (·.1))) : ss.mergeSort (fun x y => decide (x ≤ y)) = l.map (·.1) := by
  have e := mergeSort_of_perm hp
  have hs : (l.map (·.1)).Pairwise (fun x y => decide (x ≤ y) = true) := by
    rw [List.pairwise_map]
    refine h.imp (fun {a b} hab => ?_)
    rw [decide_eq_true_eq]
    exact List.le_of_lt (lt_of_before _ _ hab)
  exact e.trans (List.mergeSort_of_pairwise hs)

set_option maxRecDepth 100000 in
set_option maxHeartbeats 800000 in
theorem sorted_keys (w : World) (b n : Nat) (f : Nat → Value) (l : Names) (h : w.ownsMap Try.prog 9 raw b n (mapD f l)) (hl : l.length < 1000000) :
    Calls Try.prog 36 #[.func (.func 58) #[] #[.pointer (some ⟨w.heap.size, 0, none⟩)]] (w.alloc (.cells #[.map (some b)] 61)) fun e w' => ∃ v, e = .returned v ∧
      w'.ownsRow (w.heap.size + 1) 9 1 v l.length ((l.map (·.1)).map str) ∧ (v = .slice none 0 0 ↔ l = []) ∧ Below (w.heap.size + 1) (w.alloc (.cells #[.map (some b)] 61)) w' := by
  have hml : (1000002 : Nat) < maxLen := by decide
  refine (callsIn_wide.1 (Try.slices_Sorted_keys_36_37 b n _ raw w h (by rw [size_mapD]; omega) (by rw [size_mapD]; omega))).mono ?_
  rintro e w' ⟨v, ss, rfl, hp, hrow, hnil, hb⟩
  have hk : strKeys (mapD f l) = l.map (·.1) := by simp [strKeys, mapD, strOf]
  rw [hk] at hp
  have hlen : ss.length = l.length := by have := hp.length_eq; simpa using this
  rw [size_alloc', hlen, sorted_names (names_rising h) hp] at hrow
  rw [size_alloc'] at hb
  refine ⟨v, rfl, hrow, ?_, hb⟩
  rw [hnil, ← List.length_eq_zero_iff, hlen, List.length_eq_zero_iff]

set_option maxRecDepth 100000 in
set_option maxHeartbeats 800000 in
theorem names_any (w : World) (L : Lay) (D : DiskS) (h : DiskAt w L D) (hl : D.names.length < 1000000) :
    Calls Try.prog 15 #[.pointer (some ⟨L.p, 0, none⟩)] w fun e w' => ∃ v, e = .returned v ∧ w'.ownsRow w.heap.size 9 1 v (namesD D).length ((namesD D).map str) ∧ (v = .slice none 0 0 ↔ namesD D = []) ∧ Below w.heap.size w w' := by
  have c1 : w.cell? ⟨L.p, 1, none⟩ = some (.map (some L.mn)) := h.blk.cell 1
  have c6 : w.cell? ⟨L.p, 6, none⟩ = some (.bool D.down) := h.blk.cell 6
  have ON := Lib.hid (on_any w L.p D.down c6)
  have V : Hid (namesD D = if D.down then [] else D.names.map (·.1)) := Lib.hid rfl
  clear c6
  cases hd : D.down with
  | true =>
    simp only [hd, if_true] at V ON
    clear h
    go_enter Try.func15, Try.ntmps15
    go_wp2_with (go_at_call 35; refine ON.out.mono ?_; rintro e w' ⟨rfl, rfl⟩)
    go_ret
    refine ⟨_, rfl, ?_, ?_, Below.refl _ _⟩
    · rw [V.out]; exact World.ownsRow_nil _ _ _ _
    · rw [V.out]; simp
  | false =>
    simp only [hd, Bool.false_eq_true, if_false] at V ON
    have KS := Lib.hid (callsIn_wide.1 (Try.maps_Keys_37 (some L.mn) w))
    have SS := Lib.hid (sorted_keys w L.mn _ _ _ h.names hl)
    clear h hd
    go_enter Try.func15, Try.ntmps15
    go_wp2_with (first | (go_at_call 35; refine ON.out.mono ?_; rintro e w' ⟨rfl, rfl⟩) | (go_at_call 37; refine KS.out.mono ?_; rintro e w' ⟨rfl, rfl⟩) | (go_at_call 36; refine SS.out.mono ?_; rintro e w' ⟨v, rfl, hrow, hnil, hb⟩))
    go_ret
    refine ⟨v, rfl, ?_, ?_, ((Below.refl _ _).alloc (Nat.le_refl _) _).trans (hb.mono (by omega))⟩
    · rw [V.out, List.length_map]
      exact ownsRow_base_a hrow (by omega)
    · rw [V.out, hnil]; simp
end Go.Proofs.Ytkbmhghellimcaa
