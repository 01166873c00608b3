/- The walk of digest.Text; texts joined. -/
import Derived.Test.YtkbmhghellimcaaSum
namespace Go.Proofs.Ytkbmhghellimcaa
open Go.RowKit
attribute [local go_sem] size_str get_str

theorem length_sha (l : List UInt8) : (shaL l).length = 32 := by
  unfold shaL
  rw [length_words]
  rfl

theorem wpList_name {P : Program} {ops : Array Oper} {Q : Exit → Act → World → Prop} {l : List Oper} {a : Act} {w : World} (h : ∀ w', w' = w → wpList P ops Q l a w') : wpList P ops Q l a w := h _ rfl
set_option maxRecDepth 100000 in
set_option maxHeartbeats 1000000 in
theorem text_walk (l : List UInt8) (b : List UInt8) (hb : b.length = 32) (v : Value) (w : World)
    (hs : Calls Try.prog 45 #[v] w fun e w' => e = .returned (.agg (b.map (fun b => Value.int .u8 b.toNat)).toArray) ∧ Below w.heap.size w w') :
    Calls Try.prog 25 #[v] w fun e w' => e = .returned (str b) ∧ Below w.heap.size w w' := by
  have Hs := Lib.hid hs
  have H32 := Lib.hid hb
  have h1 : ((b.map (fun b => Value.int .u8 b.toNat)).toArray).all (·.oneCell') = true := by
    rw [Array.all_eq_true_iff_forall_mem]
    intro x hx
    simp only [List.mem_toArray, List.mem_map] at hx
    obtain ⟨y, _, rfl⟩ := hx
    rfl
  have h2 : ((b.map (fun b => Value.int .u8 b.toNat)).toArray).size = 32 := by simpa using hb
  have H1 := Lib.hid h1
  have H2 := Lib.hid h2
  clear hs hb h1 h2
  go_enter Try.func25, Try.ntmps25
  go_wp2_with fail
  refine Hs.out.mono ?_
  rintro e w1 ⟨rfl, hb1⟩
  have hA := Blk.new' (w := w1) rfl 83 #[.int .u8 0, .int .u8 0, .int .u8 0, .int .u8 0, .int .u8 0, .int .u8 0, .int .u8 0, .int .u8 0, .int .u8 0, .int .u8 0, .int .u8 0, .int .u8 0, .int .u8 0, .int .u8 0, .int .u8 0, .int .u8 0, .int .u8 0, .int .u8 0, .int .u8 0, .int .u8 0, .int .u8 0, .int .u8 0, .int .u8 0, .int .u8 0, .int .u8 0, .int .u8 0, .int .u8 0, .int .u8 0, .int .u8 0, .int .u8 0, .int .u8 0, .int .u8 0]
  have hB := hA.setRow (b.map (fun b => Value.int .u8 b.toNat)).toArray
  have hbl := below_setRow' (hb1.alloc hb1.size (.cells #[.int .u8 0, .int .u8 0, .int .u8 0, .int .u8 0, .int .u8 0, .int .u8 0, .int .u8 0, .int .u8 0, .int .u8 0, .int .u8 0, .int .u8 0, .int .u8 0, .int .u8 0, .int .u8 0, .int .u8 0, .int .u8 0, .int .u8 0, .int .u8 0, .int .u8 0, .int .u8 0, .int .u8 0, .int .u8 0, .int .u8 0, .int .u8 0, .int .u8 0, .int .u8 0, .int .u8 0, .int .u8 0, .int .u8 0, .int .u8 0, .int .u8 0, .int .u8 0] 83)) hb1.size (b.map (fun b => Value.int .u8 b.toNat)).toArray
  have hcv := hB.string (P := Try.prog) 68 9 5 Try.underlying68 Try.underlying5 Try.underlying9 b 32 32 H32.out (fun i hi => by simp [hi])
  have HA := Lib.hid hA
  clear hA hB
  go_wp2_with (refine wpList_store_row rfl 83 (.tmp 3) (.tmp 5) rfl w1.heap.size (b.map (fun b => Value.int .u8 b.toNat)).toArray rfl rfl 83 #[.int .u8 0, .int .u8 0, .int .u8 0, .int .u8 0, .int .u8 0, .int .u8 0, .int .u8 0, .int .u8 0, .int .u8 0, .int .u8 0, .int .u8 0, .int .u8 0, .int .u8 0, .int .u8 0, .int .u8 0, .int .u8 0, .int .u8 0, .int .u8 0, .int .u8 0, .int .u8 0, .int .u8 0, .int .u8 0, .int .u8 0, .int .u8 0, .int .u8 0, .int .u8 0, .int .u8 0, .int .u8 0, .int .u8 0, .int .u8 0, .int .u8 0, .int .u8 0] HA.out ?_ ?_ H1.out ?_; exact (by rw [H2.out]; first | done | kernel_rfl); exact (by rw [H2.out]; first | done | rfl); generalize (w1.alloc (.cells #[.int .u8 0, .int .u8 0, .int .u8 0, .int .u8 0, .int .u8 0, .int .u8 0, .int .u8 0, .int .u8 0, .int .u8 0, .int .u8 0, .int .u8 0, .int .u8 0, .int .u8 0, .int .u8 0, .int .u8 0, .int .u8 0, .int .u8 0, .int .u8 0, .int .u8 0, .int .u8 0, .int .u8 0, .int .u8 0, .int .u8 0, .int .u8 0, .int .u8 0, .int .u8 0, .int .u8 0, .int .u8 0, .int .u8 0, .int .u8 0, .int .u8 0, .int .u8 0] 83)).setRow w1.heap.size (b.map (fun b => Value.int .u8 b.toNat)).toArray = w2 at hcv hbl ⊢)
  go_ret
  exact ⟨rfl, hbl⟩

theorem text_of (v : Value) (l : List UInt8) (w : World) (hl : l.length < 1000000)
    (hj : ∀ W, Below w.heap.size w W → Calls Try.prog 63 #[v, .string { data := #[] }] W fun e W' => e = .returned (str l) ∧ Below W.heap.size W W') :
    Calls Try.prog 25 #[v] w fun e w' => e = .returned (str (shaL l)) ∧ Below w.heap.size w w' :=
  text_walk l (shaL l) (length_sha l) v w (sum_of v l w hl hj)

theorem join_flat (xs : List (List UInt8)) : Lib.join xs [] = xs.flatten := by
  unfold Lib.join
  induction xs with
  | nil => rfl
  | cons x xs ih =>
    cases xs with
    | nil => simp [List.intercalate]
    | cons y ys =>
      rw [List.intercalate] at ih ⊢
      simp [List.intersperse] at ih ⊢
      exact ih

/-- digest.Text of parts that lie in a block. -/
theorem text_cells (bk : Nat) (t : TypeId) (xs : List (List UInt8)) (c : Nat) (w : World) (hb : Blk w bk t (xs.map str).toArray) (hc : xs.length ≤ c) (hl : xs.flatten.length < 1000000) (hn : xs.length < 1000000) :
    Calls Try.prog 25 #[.slice (some ⟨bk, 0, none⟩) xs.length c] w fun e w' => e = .returned (str (shaL xs.flatten)) ∧ Below w.heap.size w w' := by
  refine text_of _ xs.flatten w hl (fun W hW => ?_)
  have e : ((xs.map (fun l => (⟨l.toArray⟩ : ByteArray))).map (·.data.toList)) = xs := by
    rw [List.map_map]
    conv => rhs; rw [← List.map_id xs]
    exact List.map_congr_left (fun l _ => by simp)
  have h := Try.strings_Join bk 0 c (xs.map (fun l => (⟨l.toArray⟩ : ByteArray))) ⟨#[]⟩ W (fun j x hj => by
      rw [Nat.zero_add, (hb.below hW hb.lt).cell]
      simp only [List.getElem?_map, Option.map_eq_some_iff] at hj
      obtain ⟨l, hl, rfl⟩ := hj
      simp [hl])
    (Nat.lt_of_lt_of_le hb.lt hW.size) (by rw [List.length_map]; omega) (by rw [List.length_map]; exact hc) (by rw [e]; show (Lib.join xs []).length ≤ _; rw [join_flat]; omega)
  rw [e, List.length_map] at h
  rw [show (ByteArray.mk #[]).data.toList = [] from rfl, join_flat] at h
  exact h
end Go.Proofs.Ytkbmhghellimcaa
