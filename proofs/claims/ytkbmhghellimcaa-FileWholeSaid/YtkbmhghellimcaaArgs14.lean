/- Chapter 14's arguments as data: a slice of acts. -/
import Derived.Test.YtkbmhghellimcaaClean
import Derived.Test.YtkbmhghellimcaaRows
import Derived.ProofKit
import Derived.OpenShut
namespace Go.Proofs.Ytkbmhghellimcaa
open Go.RowKit Go.ChangeShapes Go.WideShapes

/-- The slice v leads to the acts xs. -/
def Acts (w : World) (v : Value) (xs : List ActS) : Prop := ∃ A c, v = .slice A xs.length c ∧ xs.length ≤ c ∧ ((xs = [] ∧ A = none) ∨ ∃ a : Addr, A = some a ∧ ∀ i (hi : i < xs.length) j u, (actC xs[i])[j]? = some u → w.cell? (a.add (i * 6 + j)) = some u)
structure ActOk (x : ActS) : Prop where
  n : x.n < 65536
  f1 : -128 ≤ x.fuse
  f2 : x.fuse ≤ 127
  a : x.a.length ≤ maxLen
  by_ : x.by_.length ≤ maxLen
theorem addr_add_add (a : Addr) (i j : Nat) : (a.add i).add j = a.add (i + j) := by
  unfold Addr.add
  by_cases hi : i = 0 <;> by_cases hj : j = 0 <;> simp [hi, hj, Nat.add_assoc]

theorem addr_next (a : Addr) (n j : Nat) (hj : 0 < j) : a.add (n + j) = ⟨(a.add n).block, (a.add n).off + j, none⟩ := by
  rw [← addr_add_add]
  generalize a.add n = b
  unfold Addr.add
  rw [if_neg (by omega)]

section
variable {H : Type} {enc : TypeId × Value → H} {w : World} {base : Nat} {spare : Nat → Bool} {held : Bool}
set_option maxRecDepth 100000 in
theorem open_act {n : Nat} {cs : List Value} {x : DataW H × List MemPlace} (h : DataW.trod enc Try.prog w base spare held n 40 cs = some x) (hl : cs.length = 6) : ∃ y : ActS, cs = (actC y).toList ∧ ActOk y := by
  obtain ⟨xs, m, _, _, _, hlen, hf⟩ := DataW.trod_struct Try.underlying40 h
  have hlen6 : xs.length = 6 := hlen
  match cs, hl with
  | [c0, c1, c2, c3, c4, c5], _ =>
    match xs, hlen6 with
    | [y0, y1, y2, y3, y4, y5], _ =>
      have q9 : Try.prog.cellsOf 9 = 1 := by kernel_rfl
      have q37 : Try.prog.cellsOf 37 = 1 := by kernel_rfl
      have q5 : Try.prog.cellsOf 5 = 1 := by kernel_rfl
      have q4 : Try.prog.cellsOf 4 = 1 := by kernel_rfl
      have q38 : Try.prog.cellsOf 38 = 1 := by kernel_rfl
      have h0 : DataW.trod enc Try.prog w base spare held m 9 (List.take (Try.prog.cellsOf 9) (List.drop 0 [c0, c1, c2, c3, c4, c5])) = some y0 := hf 0 _ rfl
      have h1 : DataW.trod enc Try.prog w base spare held m 9 (List.take (Try.prog.cellsOf 9) (List.drop 1 [c0, c1, c2, c3, c4, c5])) = some y1 := hf 1 _ rfl
      have h2 : DataW.trod enc Try.prog w base spare held m 37 (List.take (Try.prog.cellsOf 37) (List.drop 2 [c0, c1, c2, c3, c4, c5])) = some y2 := hf 2 _ rfl
      have h3 : DataW.trod enc Try.prog w base spare held m 5 (List.take (Try.prog.cellsOf 5) (List.drop 3 [c0, c1, c2, c3, c4, c5])) = some y3 := hf 3 _ rfl
      have h4 : DataW.trod enc Try.prog w base spare held m 4 (List.take (Try.prog.cellsOf 4) (List.drop 4 [c0, c1, c2, c3, c4, c5])) = some y4 := hf 4 _ rfl
      have h5 : DataW.trod enc Try.prog w base spare held m 38 (List.take (Try.prog.cellsOf 38) (List.drop 5 [c0, c1, c2, c3, c4, c5])) = some y5 := hf 5 _ rfl
      simp only [q9, q37, q5, q4, q38, List.drop_zero, List.drop_succ_cons, List.take_succ_cons, List.take_zero, List.getElem?_cons_zero, List.getElem?_cons_succ] at h0 h1 h2 h3 h4 h5
      obtain ⟨s0, e0, _, l0⟩ := DataW.trod_string Try.underlying9 h0
      obtain ⟨s1, e1, _, l1⟩ := DataW.trod_string Try.underlying9 h1
      obtain ⟨n2, e2, _, w2⟩ := DataW.trod_int Try.underlying37 h2
      obtain ⟨n3, e3, _, w3⟩ := DataW.trod_int Try.underlying5 h3
      obtain ⟨b4, e4, _⟩ := DataW.trod_bool Try.underlying4 h4
      obtain ⟨n5, e5, _, w5⟩ := DataW.trod_int Try.underlying38 h5
      simp only [List.cons.injEq, and_true] at e0 e1 e2 e3 e4 e5
      subst e0 e1 e2 e3 e4 e5
      have b2 : 0 ≤ n2 ∧ n2 ≤ 65535 := by simpa [Lit.wf, IntKind.min, IntKind.max, IntKind.signed, IntKind.bits] using w2
      have b3 : 0 ≤ n3 ∧ n3 ≤ 255 := by simpa [Lit.wf, IntKind.min, IntKind.max, IntKind.signed, IntKind.bits] using w3
      have b5 : -128 ≤ n5 ∧ n5 ≤ 127 := by simpa [Lit.wf, IntKind.min, IntKind.max, IntKind.signed, IntKind.bits] using w5
      refine ⟨⟨s0.data.toList, s1.data.toList, n2.toNat, UInt8.ofNat n3.toNat, b4, n5⟩, ?_, ⟨by simp only; omega, b5.1, b5.2, by rw [Array.length_toList]; exact l0, by rw [Array.length_toList]; exact l1⟩⟩
      have e2 : ((n2.toNat : Nat) : Int) = n2 := by omega
      have e3 : (((UInt8.ofNat n3.toNat).toNat : Nat) : Int) = n3 := by simp; omega
      simp only [actC, e2, e3]
theorem open_acts {fuel : Nat} {v : Value} {x : DataW H × List MemPlace} (h : DataW.trod enc Try.prog w base spare held fuel 30 [v] = some x) : ∃ xs : List ActS, Acts w v xs ∧ (∀ y ∈ xs, ActOk y) ∧ xs.length ≤ maxLen := by
  have q : Try.prog.cellsOf 40 = 6 := by kernel_rfl
  rcases DataW.trod_slice Try.underlying30 h with ⟨e, _⟩ | ⟨a, len, cap, elems, rest, n, _, e, _, hb, hl, hm, hlen, hel, _⟩
  · simp only [List.cons.injEq, and_true] at e
    exact ⟨[], ⟨none, 0, by rw [e]; rfl, by simp, .inl ⟨rfl, rfl⟩⟩, by simp, by simp⟩
  · simp only [List.cons.injEq, and_true] at e
    have key : ∀ i, i < len → ∃ y : ActS, ActOk y ∧ ∀ j u, (actC y)[j]? = some u → w.cell? (a.add (i * 6 + j)) = some u := by
      intro i hi
      have h1 := hel i hi
      rw [q, List.getElem?_eq_getElem (by omega)] at h1
      obtain ⟨cs, hc, ht⟩ := Option.bind_eq_some_iff.1 h1
      obtain ⟨_, hcl, hat⟩ := World.cells?_some hc
      obtain ⟨y, rfl, hy⟩ := open_act ht hcl
      refine ⟨y, hy, fun j u hj => ?_⟩
      have hj6 : j < 6 := by
        have := (Array.getElem?_eq_some_iff.1 hj).1
        exact this
      rw [← addr_add_add, hat j hj6]
      simpa using hj
    have hall : ∀ m, m ≤ len → ∃ xs : List ActS, xs.length = m ∧ (∀ y ∈ xs, ActOk y) ∧ ∀ i (hi : i < xs.length) j u, (actC xs[i])[j]? = some u → w.cell? (a.add (i * 6 + j)) = some u := by
      intro m
      induction m with
      | zero => exact fun _ => ⟨[], rfl, by simp, fun i hi => by simp at hi⟩
      | succ m ih =>
        intro hm'
        obtain ⟨xs, h1, h2, h3⟩ := ih (by omega)
        obtain ⟨y, hy, hc⟩ := key m (by omega)
        refine ⟨xs ++ [y], by simp [h1], fun z hz => ?_, fun i hi j u hj => ?_⟩
        · rcases List.mem_append.1 hz with hz | hz
          · exact h2 z hz
          · obtain rfl : z = y := by simpa using hz
            exact hy
        · by_cases hil : i < xs.length
          · rw [List.getElem_append_left hil] at hj
            exact h3 i hil j u hj
          · obtain rfl : i = xs.length := by simp at hi; omega
            rw [List.getElem_append_right (Nat.le_refl _)] at hj
            simp at hj
            rw [h1]
            exact hc j u hj
    obtain ⟨xs, h1, h2, h3⟩ := hall len (Nat.le_refl _)
    exact ⟨xs, ⟨some a, cap, by rw [e, h1], by omega, .inr ⟨a, rfl, h3⟩⟩, h2, by omega⟩
theorem Acts.at_ {w w' : World} {v : Value} {xs : List ActS} (h : Acts w v xs) (hb : Below w.heap.size w w') {i : Nat} (hi : i < xs.length) : ∃ (a : Addr) (c : Nat), v = .slice (some a) xs.length c ∧ xs.length ≤ c ∧ ∀ j u, (actC xs[i])[j]? = some u → w'.cell? (a.add (i * 6 + j)) = some u := by
  obtain ⟨A, c, hv, hc, ⟨h0, _⟩ | ⟨a, rfl, hx⟩⟩ := h
  · subst h0
    simp at hi
  · refine ⟨a, c, hv, hc, fun j u hj => ?_⟩
    have h1 := hx i hi j u hj
    rw [← h1]
    exact hb.cell (World.block_lt_of_cell? w _ h1)
end
end Go.Proofs.Ytkbmhghellimcaa
