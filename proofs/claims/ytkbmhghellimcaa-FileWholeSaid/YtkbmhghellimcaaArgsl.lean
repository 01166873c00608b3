/- Slices of plain elements as arguments, opened. -/
import Derived.Test.YtkbmhghellimcaaArgs14
namespace Go.Proofs.Ytkbmhghellimcaa
open Go.RowKit Go.ChangeShapes Go.WideShapes

/-- A slice within a slice. -/
structure RowS (α : Type) where
  xs : List α
  A : Option Addr
  c : Nat
def rowV {α : Type} (r : RowS α) : Value := .slice r.A r.xs.length r.c
structure RowOk {α : Type} (w : World) (f : α → Value) (r : RowS α) : Prop where
  cap : r.xs.length ≤ r.c
  len : r.xs.length ≤ maxLen
  at_ : Lst w r.A (r.xs.map f)

section
variable {H : Type} {enc : TypeId × Value → H} {w : World} {base : Nat} {spare : Nat → Bool} {held : Bool}
theorem open_slice {α : Type} {e t : TypeId} (f : α → Value) (Q : α → Prop) (ht : Try.prog.underlying t = some (.slice e)) (hq : Try.prog.cellsOf e = 1)
    (el : ∀ n c (x : DataW H × List MemPlace), DataW.trod enc Try.prog w base spare held n e [c] = some x → ∃ y, c = f y ∧ Q y)
    {fuel : Nat} {v : Value} {x : DataW H × List MemPlace} (h : DataW.trod enc Try.prog w base spare held fuel t [v] = some x) : ∃ r : RowS α, v = rowV r ∧ RowOk w f r ∧ ∀ y ∈ r.xs, Q y := by
  rcases DataW.trod_slice ht h with ⟨e, _⟩ | ⟨a, len, cap, elems, rest, n, _, e, _, hb, hl, hm, hlen, hel, _⟩
  · simp only [List.cons.injEq, and_true] at e
    exact ⟨⟨[], none, 0⟩, by rw [e]; rfl, ⟨by simp, by simp, .inl rfl⟩, by simp⟩
  · simp only [List.cons.injEq, and_true] at e
    have key : ∀ i, i < len → ∃ y : α, Q y ∧ w.cell? (a.add i) = some (f y) := by
      intro i hi
      have h1 := hel i hi
      rw [hq, Nat.mul_one, List.getElem?_eq_getElem (by omega)] at h1
      obtain ⟨cs, hc, ht⟩ := Option.bind_eq_some_iff.1 h1
      obtain ⟨_, hcl, hat⟩ := World.cells?_some hc
      obtain ⟨c, rfl⟩ : ∃ c, cs = [c] := by
        match cs, hcl with
        | [c], _ => exact ⟨c, rfl⟩
      obtain ⟨y, rfl, hy⟩ := el _ _ _ ht
      refine ⟨y, hy, ?_⟩
      have := hat 0 (by decide)
      simpa [Addr.add] using this
    have hall : ∀ m, m ≤ len → ∃ ys : List α, ys.length = m ∧ (∀ y ∈ ys, Q y) ∧ ∀ i (hi : i < ys.length), w.cell? (a.add i) = some (f ys[i]) := by
      intro m
      induction m with
      | zero => exact fun _ => ⟨[], rfl, by simp, fun i hi => by simp at hi⟩
      | succ m ih =>
        intro hm'
        obtain ⟨ys, h1, h2, h3⟩ := ih (by omega)
        obtain ⟨y, hy, hc⟩ := key m (by omega)
        refine ⟨ys ++ [y], by simp [h1], fun z hz => ?_, fun i hi => ?_⟩
        · rcases List.mem_append.1 hz with hz | hz
          · exact h2 z hz
          · obtain rfl : z = y := by simpa using hz
            exact hy
        · by_cases hil : i < ys.length
          · rw [List.getElem_append_left hil]
            exact h3 i hil
          · obtain rfl : i = ys.length := by simp at hi; omega
            rw [List.getElem_append_right (Nat.le_refl _)]
            simp only [Nat.sub_self, List.getElem_singleton]
            rw [h1]
            exact hc
    obtain ⟨ys, h1, h2, h3⟩ := hall len (Nat.le_refl _)
    refine ⟨⟨ys, some a, cap⟩, by rw [e, rowV, h1], ⟨by simp only; omega, by simp only; omega, ?_⟩, h2⟩
    by_cases hz : ys = []
    · subst hz
      exact .inl rfl
    · have h0 : 0 < ys.length := List.length_pos_iff.2 hz
      have hc0 := h3 0 h0
      have hsp : a.spot = none := by
        have hc0' : w.cell? a = some (f ys[0]) := by simpa [Addr.add] using hc0
        unfold World.cell? at hc0'
        split at hc0'
        · cases hs : a.spot with
          | none => rfl
          | some s => rw [hs] at hc0'; simp at hc0'
        · simp at hc0'
      have hlt : a.block < w.heap.size := by
        have := World.block_lt_of_cell? w _ hc0
        simpa [Addr.add] using this
      obtain ⟨b, o, s⟩ := a
      obtain rfl : s = none := hsp
      refine .inr ⟨b, o, rfl, hlt, fun j u hj => ?_⟩
      simp only at hj
      by_cases hjl : j < ys.length
      · have hu : f ys[j] = u := by simpa [hjl] using hj
        have ha : (⟨b, o, none⟩ : Addr).add j = ⟨b, o + j, none⟩ := by
          unfold Addr.add
          by_cases hj0 : j = 0 <;> simp [hj0]
        rw [← hu, ← h3 j hjl, ha]
      · rw [List.getElem?_eq_none (by simpa using hjl)] at hj
        simp at hj
theorem open_bool {n : Nat} {c : Value} {x : DataW H × List MemPlace} (h : DataW.trod enc Try.prog w base spare held n 4 [c] = some x) : ∃ y : Bool, c = .bool y ∧ True := by
  obtain ⟨b, e, _⟩ := DataW.trod_bool Try.underlying4 h
  simp only [List.cons.injEq, and_true] at e
  exact ⟨b, e, trivial⟩
theorem open_u64 {n : Nat} {c : Value} {x : DataW H × List MemPlace} (h : DataW.trod enc Try.prog w base spare held n 56 [c] = some x) : ∃ y : Nat, c = .int .u64 (y : Int) ∧ y < 18446744073709551616 := by
  obtain ⟨m, e, _, w2⟩ := DataW.trod_int Try.underlying56 h
  simp only [List.cons.injEq, and_true] at e
  have hmx : IntKind.u64.max = 18446744073709551615 := by decide
  have hmn : IntKind.u64.min = 0 := by decide
  have b2 : 0 ≤ m ∧ m ≤ 18446744073709551615 := by simpa only [Lit.wf, hmx, hmn, Bool.and_eq_true, decide_eq_true_eq] using w2
  refine ⟨m.toNat, ?_, by omega⟩
  rw [e, show ((m.toNat : Nat) : Int) = m by omega]
theorem open_bools {fuel : Nat} {v : Value} {x : DataW H × List MemPlace} (h : DataW.trod enc Try.prog w base spare held fuel 46 [v] = some x) : ∃ r : RowS (RowS Bool), v = rowV r ∧ RowOk w rowV r ∧ ∀ y ∈ r.xs, RowOk w Value.bool y :=
  open_slice rowV (fun y => RowOk w Value.bool y) Try.underlying46 (by kernel_rfl) (fun n c x hx => by
    obtain ⟨r, h1, h2, _⟩ := open_slice Value.bool (fun _ => True) Try.underlying49 (by kernel_rfl) (fun _ _ _ hy => open_bool hy) hx
    exact ⟨r, h1, h2⟩) h
def u64V (n : Nat) : Value := .int .u64 (n : Int)
theorem open_u64s {fuel : Nat} {v : Value} {x : DataW H × List MemPlace} (h : DataW.trod enc Try.prog w base spare held fuel 47 [v] = some x) : ∃ r : RowS (RowS Nat), v = rowV r ∧ RowOk w rowV r ∧ ∀ y ∈ r.xs, RowOk w u64V y ∧ ∀ n ∈ y.xs, n < 18446744073709551616 :=
  open_slice rowV (fun y => RowOk w u64V y ∧ ∀ n ∈ y.xs, n < 18446744073709551616) Try.underlying47 (by kernel_rfl) (fun n c x hx => by
    obtain ⟨r, h1, h2, h3⟩ := open_slice u64V (fun n => n < 18446744073709551616) Try.underlying50 (by kernel_rfl) (fun _ _ _ hy => open_u64 hy) hx
    exact ⟨r, h1, h2, h3⟩) h
end
end Go.Proofs.Ytkbmhghellimcaa
